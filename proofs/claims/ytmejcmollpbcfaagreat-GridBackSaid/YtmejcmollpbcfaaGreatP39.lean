import Derived.Test.YtmejcmollpbcfaaGreatP35
set_option linter.all false
namespace Go.Proofs.OGW
open Go.RowKit Go.Sort OG Go.Shelf Go.PlainAid
attribute [local go_sem] sA fv sB sG sC Nat.zero_add
attribute [local go_sem ↓] ld66 ld51 st66 st51
def kindAt (ns : List Nd) (j : Nat) : Int := match ns[j]? with | some n => n.lf.kind | none => 0
def kidsR (ns : List Nd) (i : Nat) (n : Nd) : List Nat := kgo (n.depth + 1) (i + 1) (ns.drop (i + 1))
theorem kgo_mem (d : Int) : ∀ (l : List Nd) (a : Nat), ∀ j ∈ kgo d a l, a ≤ j ∧ j < a + l.length
 | [], a, j, h => by simp [kgo] at h
 | n :: r, a, j, h => by
   unfold kgo at h
   rw [List.length_cons]
   split at h
   ·cases h
   ·split at h
    ·rcases List.mem_cons.1 h with rfl | h
     ·omega
     ·have := kgo_mem d r (a + 1) j h; omega
    ·have := kgo_mem d r (a + 1) j h; omega
def ParOk (ns : List Nd) (n : Nd) (pr : Int) (pk : Int) (pm : Nat) : Prop :=
 0 < n.depth → ∃ (m : Nat) (p : Nd), pr = (m : Int) ∧ ns[m]? = some p ∧ pk = p.lf.kind ∧ pm = (kidsR ns m p).length ∧ 0 ≤ p.depth ∧ p.depth ≤ 4
theorem famR_low {k d : Int} {kk : List Int} {pk : Int} {pm : Nat} (h : (kk.length : Int) < lowR k ∨ highR k < (kk.length : Int) ∨ (k = 5 ∧ 0 < d)) : famR k d kk pk pm = false := by unfold famR; rw [if_pos h]
theorem famR_par {k d : Int} {kk : List Int} {pk : Int} {pm : Nat} (h0 : ¬ ((kk.length : Int) < lowR k ∨ highR k < (kk.length : Int) ∨ (k = 5 ∧ 0 < d))) (h : k = 7 ∧ 0 < d ∧ (pk ≠ 5 ∨ pm ≠ 1)) : famR k d kk pk pm = false := by unfold famR; rw [if_neg h0, if_pos h]
theorem famR_all {k d : Int} {kk : List Int} {pk : Int} {pm : Nat} (h0 : ¬ ((kk.length : Int) < lowR k ∨ highR k < (kk.length : Int) ∨ (k = 5 ∧ 0 < d))) (h : ¬ (k = 7 ∧ 0 < d ∧ (pk ≠ 5 ∨ pm ≠ 1))) : famR k d kk pk pm = kk.all (kidR k) := by unfold famR; rw [if_neg h0, if_neg h]
theorem tZ8 {P : Prop} (h : P := by
 go_wp2_with fail
 go_ret
 exact ⟨rfl, Gr.trans HGC.out gw⟩) : P := h
set_option maxRecDepth 100000 in
set_option maxHeartbeats 40000000 in
theorem fam2_call (A : Option Addr) (len c : Nat) (ns : List Nd) (i : Nat) (n : Nd) (pr pk : Int) (pm : Nat) (w : World) (hnd : NdRow w A ns) (hl : ns.length = len) (hlen : len ≤ 1000000) (hn : ns[i]? = some n) (hd0 : 0 ≤ n.depth) (hd4 : n.depth ≤ 4) (hk1 : 1 ≤ n.lf.kind) (hk7 : n.lf.kind ≤ 7) (hpar : ParOk ns n pr pk pm) :
 Calls Tryz.prog 71 #[.agg #[.slice A len c], .int .i64 (i : Nat), .int .i64 pr] w fun e w' => e = .returned (.bool (famR n.lf.kind n.depth ((kidsR ns i n).map (kindAt ns)) pk pm)) ∧ Gr w w' := by
 have hi : i < len := by have := (gO hn).1; omega
 have HK := hiD (fun w1 (h : Gr w w1) => kids2_call A len c ns i n w1 (hnd.gr h) hl hlen hn (by omega) (by omega))
 have HKP := hiD (fun (m : Nat) (p : Nd) (h : ns[m]? = some p) (h0 : 0 ≤ p.depth) (h4 : p.depth ≤ 4) w1 (hg : Gr w w1) => kids2_call A len c ns m p w1 (hnd.gr hg) hl hlen h (by omega) (by omega))
 have hmem : ∀ j ∈ kidsR ns i n, j < len := fun j hj => by have := kgo_mem _ _ _ j hj; rw [List.length_drop] at this; omega
 obtain ⟨xs, hxs⟩ : ∃ xs, xs = kidsR ns i n := ⟨_, rfl⟩
 rw [show kgo (n.depth + 1) (i + 1) (ns.drop (i + 1)) = kidsR ns i n from rfl] at HK
 rw [← hxs] at HK hmem ⊢
 have hxl : xs.length ≤ len := by
  have h1 : ∀ (d : Int) (l : List Nd) (a : Nat), (kgo d a l).length ≤ l.length := by
   intro d l
   induction l with
   | nil => intro a; simp [kgo]
   | cons n r ih =>
     intro a
     have h2 := ih (a + 1)
     unfold kgo
     rw [List.length_cons]
     split
     ·simp
     ·split
      ·rw [List.length_cons]; omega
      ·omega
  have := h1 (n.depth + 1) (ns.drop (i + 1)) (i + 1)
  rw [hxs]; unfold kidsR
  rw [List.length_drop] at this; omega
 have HMEM := hiD hmem
 have HPAR := hiD hpar
 clear hxs hmem hpar
 obtain ⟨blk, off, rfl, hat⟩ := hnd.2 _ n hn
 have hblk : blk < w.heap.size := lcc w _ hat.c0
 simp only [NdAt] at hat
 have HND := hiD hnd
 have HL := hiD hl
 have HN := hiD hn
 have ti : ((i : Nat) : Int).toNat = i := by omega
 obtain ⟨⟨kd, sg, tn, mr, sta, mn, mx⟩, dd⟩ := n
 simp only at hk1 hk7 hd0 hd4 ⊢
 obtain ⟨K, hK⟩ : ∃ K, K = xs.length := ⟨_, rfl⟩
 obtain ⟨res, hres⟩ : ∃ res, res = famR kd dd (xs.map (kindAt ns)) pk pm := ⟨_, rfl⟩
 rw [← hres]
 have HRES := hiD hres
 have HKL := hiD hK
 rw [← hK] at hxl
 obtain ⟨kk, hkk⟩ : ∃ kk : Int, kk = kd := ⟨_, rfl⟩
 obtain ⟨lo, hi', tt, hcs⟩ : ∃ lo hi' tt : Int, (kd = 1 ∧ lo = 0 ∧ hi' = 0 ∧ tt = 1) ∨ (kd = 2 ∧ lo = 2 ∧ hi' = 6 ∧ tt = 2) ∨ (kd = 3 ∧ lo = 2 ∧ hi' = 6 ∧ tt = 3) ∨ (kd = 4 ∧ lo = 2 ∧ hi' = 2 ∧ tt = 2) ∨ (kd = 5 ∧ lo = 1 ∧ hi' = 6 ∧ tt = 2) ∨ (kd = 6 ∧ lo = 0 ∧ hi' = 0 ∧ tt = 1) ∨ (kd = 7 ∧ lo = 2 ∧ hi' = 6 ∧ tt = 2) := by
  have hc : kd = 1 ∨ kd = 2 ∨ kd = 3 ∨ kd = 4 ∨ kd = 5 ∨ kd = 6 ∨ kd = 7 := by omega
  rcases hc with h | h | h | h | h | h | h <;> subst h <;> simp
 have HLF := hiD (leaf2_call kd)
 clear hnd hl hn hres hK hk1 hk7
 rcases hcs with ⟨hkd, hlo', hhi', htt⟩ | ⟨hkd, hlo', hhi', htt⟩ | ⟨hkd, hlo', hhi', htt⟩ | ⟨hkd, hlo', hhi', htt⟩ | ⟨hkd, hlo', hhi', htt⟩ | ⟨hkd, hlo', hhi', htt⟩ | ⟨hkd, hlo', hhi', htt⟩
 all_goals
  subst hkd
  go_enter Tryz.func71, Tryz.ntmps71
  go_upto_region 11 with (first
   | (go_at_call 119; refine (HK.out _ gw).mono ?_; rintro e w' ⟨v, rfl, hov, hgv⟩; obtain ⟨IA, ic, hv, hcells⟩ := OwnI.row hov; rw [← HKL.out] at hv; subst hv; have HCL := hiD hcells; obtain ⟨q2, os2, rfl⟩ := hgv.eq; clear hov hgv hcells)
   | (go_at_call 136; refine (HLF.out.at _).mono ?_; rintro e w1 ⟨rfl, q1, os1, rfl⟩))
  try simp only [Nat.add_assoc, Nat.reduceAdd]
  generalize hwc : Sort.grow (World.drewN (Sort.grow _ os2) q1) os1 = wc
  have m0 : wc.cell? ⟨w.heap.size, 0, none⟩ = some (.slice (some ⟨blk, off, none⟩) len c) := by rw [← hwc]; clear hwc; go_simp
  have c0 : wc.cell? ⟨w.heap.size + 1, 0, none⟩ = some (.int .i64 kk) := by rw [← hwc, hkk]; clear hwc; go_simp
  have c1 : wc.cell? ⟨w.heap.size + 1, 1, none⟩ = some (.int .i64 dd) := by rw [← hwc]; clear hwc; go_simp
  have hgc : Gr w wc := by rw [← hwc]; exact gw
  have hcl : ∀ (q j : Nat), xs[q]? = some j → ∃ b, IA = some ⟨b, 0, none⟩ ∧ wc.cell? ⟨b, q, none⟩ = some (.int .i64 (j : Int)) := fun q j h => by
   rw [← hwc]; obtain ⟨b, e, hc⟩ := HCL.out q j h; exact ⟨b, e, Gr.cell gw hc⟩
  rw [hkk] at c0
  clear hwc
  have HGC := hiD hgc
  have HCC := hiD hcl
  have nm := lcc wc _ m0
  have nc := lcc wc _ c0
  have hkl : ((xs.map (kindAt ns)).length : Int) = (K : Int) := by rw [List.length_map, HKL.out]
  clear hgc hcl hat
  by_cases hlo : (K : Int) < lo
  ·have f1 : decide ((K : Int) < lo) = true := by simp <;> omega
   subst hlo'
   have hv : res = false := by rw [HRES.out]; exact famR_low (by rw [hkl]; simp [lowR, highR]; omega)
   subst hv
   exact tZ8
  have f1 : decide ((K : Int) < lo) = false := by simp <;> omega
  by_cases hhi : hi' < (K : Int)
  ·have f2 : decide (hi' < (K : Int)) = true := by simp <;> omega
   subst hlo' hhi'
   have hv : res = false := by rw [HRES.out]; exact famR_low (by rw [hkl]; simp [lowR, highR]; omega)
   subst hv
   exact tZ8
  have f2 : decide (hi' < (K : Int)) = false := by simp <;> omega
  subst hlo' hhi'
  first
  | (have e5 : kk = 5 := hkk
     by_cases hdd : 0 < dd
     ·have f3 : decide (0 < dd) = true := by simp <;> omega
      have hv : res = false := by rw [HRES.out]; exact famR_low (by rw [hkl]; simp [lowR, highR]; omega)
      subst hv
      exact tZ8
     have f3 : decide (0 < dd) = false := by simp <;> omega
     have HG2 := hiD (Gr.refl wc)
     have hall : res = (xs.map (kindAt ns)).all (kidR kk) := by rw [HRES.out, hkk]; exact famR_all (by rw [hkl]; simp [lowR, highR]; omega) (by omega))
  | (have e7 : kk = 7 := hkk
     by_cases hdd : 0 < dd
     rotate_left
     have f3 : decide (0 < dd) = false := by simp <;> omega
     have HG2 := hiD (Gr.refl wc)
     have hall : res = (xs.map (kindAt ns)).all (kidR kk) := by rw [HRES.out, hkk]; exact famR_all (by rw [hkl]; simp [lowR, highR]; omega) (by omega)
     rotate_left
     have f3 : decide (0 < dd) = true := by simp <;> omega
     obtain ⟨m, p, rfl, hpm, hpk, hpmn, hp0, hp4⟩ := HPAR.out hdd
     have hml : m < len := by have := (gO hpm).1; have := HL.out; omega
     have tm : ((m : Nat) : Int).toNat = m := by omega
     obtain ⟨blk2, off2, e2, hatm⟩ := HND.out.2 m p hpm
     obtain ⟨rfl, rfl⟩ : blk = blk2 ∧ off = off2 := by simpa using e2
     have cm := HGC.out.cell hatm.c0
     have ncm := lcc wc _ cm
     clear e2 hatm
     by_cases h5 : p.lf.kind ≠ 5
     ·have f4 : (p.lf.kind != 5) = true := by simp [h5]
      have hv : res = false := by rw [HRES.out]; exact famR_par (by rw [hkl]; simp [lowR, highR]; omega) ⟨rfl, hdd, (.inl (by rw [hpk]; exact h5))⟩
      subst hv
      exact tZ8
     have h5 : p.lf.kind = 5 := by omega
     have f4 : (p.lf.kind != 5) = false := by simp [h5]
     have HKM := hiD (HKP.out m p hpm hp0 hp4 wc HGC.out)
     rw [show kgo (p.depth + 1) (m + 1) (ns.drop (m + 1)) = kidsR ns m p from rfl] at HKM
     obtain ⟨ys, hys⟩ : ∃ ys, ys = kidsR ns m p := ⟨_, rfl⟩
     rw [← hys] at HKM hpmn
     have HPM := hiD hpmn
     clear hys
     by_cases h1 : pm ≠ 1
     ·have f5 : ((pm : Int) != 1) = true := by simp <;> omega
      have hv : res = false := by rw [HRES.out]; exact famR_par (by rw [hkl]; simp [lowR, highR]; omega) ⟨rfl, hdd, (.inr h1)⟩
      subst hv
      go_wp2_with (go_at_call 119; refine HKM.out.mono ?_; rintro e w5 ⟨v, rfl, hov, hgv⟩; obtain ⟨IB, jc, hv, _⟩ := OwnI.row hov; rw [← HPM.out] at hv; subst hv; have HG2 := hiD hgv; clear hov hgv)
      go_ret
      exact ⟨rfl, HGC.out.trans HG2.out⟩
     have h1 : pm = 1 := by omega
     have f5 : ((pm : Int) != 1) = false := by simp [h1]
     have hall : res = (xs.map (kindAt ns)).all (kidR kk) := by rw [HRES.out, hkk]; exact famR_all (by rw [hkl]; simp [lowR, highR]; omega) (by rw [hpk]; simp [h5, h1])
     go_upto_region 15 with (go_at_call 119; refine HKM.out.mono ?_; rintro e w5 ⟨v, rfl, hov, hgv⟩; obtain ⟨IB, jc, hv, _⟩ := OwnI.row hov; rw [← HPM.out] at hv; subst hv; have HG2 := hiD hgv; clear hov hgv)
  )
  | (have HG2 := hiD (Gr.refl wc)
     have hall : res = (xs.map (kindAt ns)).all (kidR kk) := by rw [HRES.out, hkk]; exact famR_all (by rw [hkl]; simp [lowR, highR]; omega) (by omega))
  all_goals
   rw [List.all_map] at hall
   have HALL := hiD hall
   have M0 := hiD m0
   have C0 := hiD c0
   clear hall
   go_upto_region 16 with fail
   clear m0 c0 c1 nm nc hkl
   go_loopw [11] (fun x wr => ∃ q : Nat, x = .int .i64 (q : Int) ∧ q ≤ K ∧ Hid (res = (xs.drop q).all (kidR kk ∘ kindAt ns)) ∧ Hid (Gr wc wr)) (fun x _ => K - (intOf x).toNat)
   case atStart => exact ⟨0, rfl, Nat.zero_le _, HALL.out, HG2.out⟩
   case round =>
    obtain ⟨q, rfl, hq, HR, HG⟩ := hrel
    by_cases hlt : q < K
    ·first
      | (exfalso; omega)
      | (have d1 : decide ((q : Int) < (K : Int)) = true := by simp <;> omega
         have tq : ((q : Nat) : Int).toNat = q := by omega
         obtain ⟨j, hj⟩ : ∃ j, xs[q]? = some j := ⟨_, gE (by rw [← HKL.out]; exact hlt)⟩
         obtain ⟨ib, rfl, hjc⟩ := HCC.out q j hj
         have hjl := HMEM.out j (List.mem_of_getElem? hj)
         have tj : ((j : Nat) : Int).toNat = j := by omega
         obtain ⟨p, hp⟩ : ∃ p, ns[j]? = some p := ⟨_, gE (by rw [HL.out]; exact hjl)⟩
         obtain ⟨blk2, off2, e2, hatp⟩ := HND.out.2 j p hp
         obtain ⟨rfl, rfl⟩ : blk = blk2 ∧ off = off2 := by simpa using e2
         have hkp : kindAt ns j = p.lf.kind := by simp [kindAt, hp]
         have hdr : xs.drop q = j :: xs.drop (q + 1) := by rw [List.drop_eq_getElem_cons (gO hj).1, (gO hj).2]
         have hR := HR.out
         rw [hdr, List.all_cons, Function.comp_apply, hkp] at hR
         have HR2 := hiD hR
         have g0 := HG.out.cell (hjc)
         have g1 := HG.out.cell M0.out
         have g2 := HG.out.cell C0.out
         have g3 := (HGC.out.trans HG.out).cell hatp.c0
         have r0 := lcc wr _ g0
         have r1 := lcc wr _ g1
         have r2 := lcc wr _ g2
         have r3 := lcc wr _ g3
         clear hj hjc hp e2 hatp hkp hdr hR
         go_upto_region 18 with fail
         refine wp_region_quiet_grown mixed (by kernel_rfl) ?_
         repeat (go_big_quiet_step (fail))
         refine wpQuiet_nil ?_
         rintro w' ⟨⟨nq, osq⟩, rfl⟩
         have hg2 : Gr wr (Sort.grow (wr.drewN nq) osq) := Gr.of_eq _ _
         have g2 := hg2.cell g2
         generalize Sort.grow (wr.drewN nq) osq = w2 at hg2 g2 ⊢
         have r2 := lcc w2 _ g2
         have HG3 := hiD (HG.out.trans hg2)
         clear hg2 g0 g1 g3 r0 r1 r3
         first
         | (have e4 : kk = 4 := hkk
            by_cases t0 : p.lf.kind ≠ 1
            ·have u0d : (p.lf.kind != 1) = true := by simp [t0]
             have hv : res = false := by rw [HR2.out]; simp [kidR, hkk, t0]
             subst hv
             go_wp2_with fail
             go_ret
             exact ⟨rfl, HGC.out.trans HG3.out⟩
            have u0d : (p.lf.kind != 1) = false := by simp at t0; simp [t0]
            have HV := hiD (show res = (xs.drop (q + 1)).all (kidR kk ∘ kindAt ns) by rw [HR2.out]; simp [kidR, hkk, t0]))
         | (by_cases t0 : p.lf.kind = tt
            ·have u0d : (p.lf.kind == tt) = true := by simp [t0]
             subst htt
             have hv : res = false := by rw [HR2.out]; simp [kidR, hkk, t0]
             subst hv
             go_wp2_with fail
             go_ret
             exact ⟨rfl, HGC.out.trans HG3.out⟩
            have u0d : (p.lf.kind == tt) = false := by simp [t0]
            subst htt
            by_cases t1 : kk = 7 ∧ p.lf.kind = 7
            ·first
              | (exfalso; omega)
              | (have u1d : (p.lf.kind == 7) = true := by simp [t1.2]
                 have hv : res = false := by rw [HR2.out]; simp [kidR, t1.1, t1.2]
                 subst hv
                 go_wp2_with fail
                 go_ret
                 exact ⟨rfl, HGC.out.trans HG3.out⟩)
            try (have e7 : kk = 7 := hkk
                 have t2 : ¬ p.lf.kind = 7 := by omega
                 have u1d : (p.lf.kind == 7) = false := by simp [t2])
            have HV := hiD (show res = (xs.drop (q + 1)).all (kidR kk ∘ kindAt ns) by rw [HR2.out]; first | (simp [kidR, hkk, t0]; done) | (simp [kidR, hkk, t0, t2]; done)))
         go_wp2_with fail
         go_roundw
         case rel => exact ⟨q + 1, by go_num, by omega, HV.out, HG3.out⟩
         case measure => simp [intOf]; omega)
    ·obtain rfl : q = K := by omega
     have d1 : decide ((q : Int) < (q : Int)) = false := by simp
     have hv : res = true := by rw [HR.out, List.drop_eq_nil_of_le (by rw [HKL.out]; exact Nat.le_refl _)]; rfl
     subst hv
     go_wp2_with fail
     go_ret
     exact ⟨rfl, HGC.out.trans HG.out⟩
end Go.Proofs.OGW
