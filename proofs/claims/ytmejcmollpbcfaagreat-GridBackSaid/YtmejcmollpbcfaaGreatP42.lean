import Derived.Test.YtmejcmollpbcfaaGreatP32
import Derived.Test.YtmejcmollpbcfaaGreatP40
import Derived.Test.YtmejcmollpbcfaaGreatP41
set_option linter.all false
namespace Go.Proofs.OGW
open Go.RowKit Go.Sort OG Go.Shelf Go.PlainAid
attribute [local go_sem] sA fv sB sG sC Nat.zero_add
attribute [local go_sem ↓] ld66 ld51 st66 st51
def pkAt (ns : List Nd) (i : Nat) (n : Nd) : Int := kindAt ns (parN ns n.depth i).toNat
def pmAt (ns : List Nd) (i : Nat) (n : Nd) : Nat := match ns[(parN ns n.depth i).toNat]? with | some p => (kidsR ns (parN ns n.depth i).toNat p).length | none => 0
def famAt2 (ns : List Nd) (i : Nat) : Bool := match ns[i]? with | some n => famR n.lf.kind n.depth ((kidsR ns i n).map (kindAt ns)) (pkAt ns i n) (pmAt ns i n) | none => true
def checkR (most : Int) (l : List Sg) (ns : List Nd) : Int :=
 if listE most l ≠ 0 then listE most l else if 200 < ns.length then 2 else if firstE (ownE l ns) ns.length 0 ≠ 0 then firstE (ownE l ns) ns.length 0
 else if (List.range ns.length).all (famAt2 ns) then 0 else 20
theorem parN_get (ns : List Nd) (d : Int) : ∀ (i : Nat), i ≤ ns.length → 0 ≤ parN ns d i → ∃ (m : Nat) (p : Nd), parN ns d i = (m : Int) ∧ m < i ∧ ns[m]? = some p ∧ p.depth < d
 | 0, _, h => by simp [parN] at h
 | i + 1, hl, h => by
   obtain ⟨n, hn⟩ : ∃ n, ns[i]? = some n := ⟨_, gE (by omega)⟩
   unfold parN at h ⊢
   rw [hn] at h ⊢
   by_cases hd : n.depth < d
   ·exact ⟨i, n, by simp [hd], by omega, hn, hd⟩
   ·simp only [hd, if_false] at h ⊢
    obtain ⟨m, p, h1, h2, h3, h4⟩ := parN_get ns d i (by omega) h
    exact ⟨m, p, h1, by omega, h3, h4⟩
theorem parN_nn (ns : List Nd) (d : Int) (n0 : Nd) (h0 : ns[0]? = some n0) (hd : n0.depth < d) : ∀ (i : Nat), 1 ≤ i → i ≤ ns.length → 0 ≤ parN ns d i
 | 0, h, _ => by omega
 | i + 1, _, hl => by
   obtain ⟨n, hn⟩ : ∃ n, ns[i]? = some n := ⟨_, gE (by omega)⟩
   unfold parN
   rw [hn]
   by_cases hh : n.depth < d
   ·simp [hh]
   ·simp only [hh, if_false]
    by_cases hi : i = 0
    ·subst hi; rw [h0] at hn; cases hn; exact absurd hd hh
    ·exact parN_nn ns d n0 h0 hd i (by omega) (by omega)
theorem nodeE_top {l : List Sg} {t : Int} {n : Nd} (h : nodeE l t n = 0) : n.depth ≤ t ∧ 1 ≤ n.lf.kind ∧ n.lf.kind ≤ 7 := by
 unfold nodeE at h
 split at h
 ·cases h
 split at h
 ·cases h
 omega
theorem par_ok {l : List Sg} {ns : List Nd} (hall : ∀ j, j < ns.length → ownE l ns j = 0) {i : Nat} {n : Nd} (hn : ns[i]? = some n) : ParOk ns n (parN ns n.depth i) (pkAt ns i n) (pmAt ns i n) := by
 intro hd
 have hi := (gO hn).1
 obtain ⟨n0, h0⟩ : ∃ n, ns[0]? = some n := ⟨_, gE (by omega)⟩
 have hz := hall 0 (by omega)
 unfold ownE at hz
 rw [h0] at hz
 have hz2 := (nodeE_top hz).1
 simp only [topN] at hz2
 have hi1 : 1 ≤ i := by
  rcases i with _ | i
  ·rw [h0] at hn; cases hn; omega
  ·omega
 have hnn := parN_nn ns n.depth n0 h0 (by omega) i hi1 (by omega)
 obtain ⟨m, p, h1, h2, h3, h4⟩ := parN_get ns n.depth i (by omega) hnn
 have hp := hall m (by omega)
 unfold ownE at hp
 rw [h3] at hp
 have hpd := nodeE_depth hp
 refine ⟨m, p, h1, h3, ?_, ?_, hpd.1, hpd.2⟩
 ·unfold pkAt kindAt; rw [h1]; simp [h3]
 ·unfold pmAt; rw [h1]; simp [h3]
set_option maxRecDepth 100000 in
set_option maxHeartbeats 8000000 in
theorem checkR2_call (most : Int) (SA : Option Addr) (sn sc : Nat) (A : Option Addr) (len c : Nat) (l : List Sg) (ns : List Nd) (w : World) (hE : LayEnv w most SA sn sc A len c l ns) :
 Calls Tryz.prog 25 #[lv most SA sn sc, .agg #[.slice A len c]] w fun e w' => e = .returned (.int .i64 (checkR most l ns)) ∧ Gr w w' := by
 have hlen := hE.nb
 have hsn := hE.sb
 have HL := hiD hE.nl
 have hsc : ∀ m os, Calls Tryz.prog 52 #[lv most SA sn sc] (Sort.grow (((w.alloc (.cells #[.int .i64 most, .slice SA sn sc] 24)).alloc (.cells #[.slice A len c] 33)).drewN m) os) fun e w' => e = .returned (.int .i64 (listE most l)) ∧ Gr (Sort.grow (((w.alloc (.cells #[.int .i64 most, .slice SA sn sc] 24)).alloc (.cells #[.slice A len c] 33)).drewN m) os) w' := fun m os =>
  checkR1_call most SA sc l _ (hE.sg.gr ((((Gr.refl w).alloc _).alloc _).trans (Gr.of_eq m os))) sn hE.sl (by omega)
 have HSC := hiD (show Calls Tryz.prog 52 #[lv most SA sn sc] ((w.alloc (.cells #[.int .i64 most, .slice SA sn sc] 24)).alloc (.cells #[.slice A len c] 33)) fun e w' => e = .returned (.int .i64 (listE most l)) ∧ Gr ((w.alloc (.cells #[.int .i64 most, .slice SA sn sc] 24)).alloc (.cells #[.slice A len c] 33)) w' from
  checkR1_call most SA sc l _ (hE.sg.gr (((Gr.refl w).alloc _).alloc _)) sn hE.sl (by omega))
 have HE := hiD hE
 clear hE hsc
 obtain ⟨ce, hce⟩ : ∃ ce, ce = checkR most l ns := ⟨_, rfl⟩
 rw [← hce]
 have hce2 : ce = if listE most l ≠ 0 then listE most l else if 200 < len then 2 else if firstE (ownE l ns) len 0 ≠ 0 then firstE (ownE l ns) len 0
  else if (List.range len).all (famAt2 ns) then 0 else 20 := by rw [hce, checkR, HL.out]
 have HCE := hiD hce2
 clear hce hce2
 obtain ⟨le, hle⟩ : ∃ le, le = listE most l := ⟨_, rfl⟩
 rw [← hle] at HSC HCE
 clear hle
 by_cases h0 : le = 0
 ·subst h0
  by_cases h1 : 200 < len
  ·have hv : ce = 2 := by have := HCE.out; simpa [h1] using this
   have d1 : decide (200 < (len : Int)) = true := by simp; omega
   rw [hv]
   clear hv h1
   go_enter Tryz.func25, Tryz.ntmps25
   go_wp2_with (go_at_call 52; refine HSC.out.mono ?_; rintro e w' ⟨rfl, hgw⟩; have HG := hiD hgw; have m0 := hgw.cell (p := ⟨w.heap.size + 1, 0, none⟩) (v := .slice A len c) (by go_simp); clear hgw)
   go_ret
   exact ⟨rfl, (((Gr.refl w).alloc _).alloc _).trans HG.out⟩
  have d1 : decide (200 < (len : Int)) = false := by simp; omega
  have hl2 : len ≤ 200 := by omega
  have hv : ce = if firstE (ownE l ns) len 0 ≠ 0 then firstE (ownE l ns) len 0 else if (List.range len).all (famAt2 ns) then 0 else 20 := by have := HCE.out; simpa [h1] using this
  have HV := hiD hv
  clear HCE hv h1
  go_enter Tryz.func25, Tryz.ntmps25
  go_upto_region 7 with (go_at_call 52; refine HSC.out.mono ?_; rintro e w' ⟨rfl, hgw⟩; have HG := hiD hgw; have m0 := hgw.cell (p := ⟨w.heap.size + 1, 0, none⟩) (v := .slice A len c) (by go_simp); have m1 := hgw.cell (p := ⟨w.heap.size, 0, none⟩) (v := .int .i64 most) (by go_simp); have m2 := hgw.cell (p := ⟨w.heap.size, 1, none⟩) (v := .slice SA sn sc) (by go_simp); clear hgw)
  have G1 := hiD ((((Gr.refl w).alloc _).alloc _).trans HG.out)
  clear HG HSC d1
  obtain ⟨W1, hW1⟩ : ∃ W1, W1 = w' := ⟨_, rfl⟩
  subst hW1
  have M0 := hiD m0
  have M1 := hiD m1
  have M2 := hiD m2
  have s0 : w.heap.size + 1 < W1.heap.size := lcc W1 _ m0
  clear m1 m2
  go_loopw [6] (fun i wr => ∃ k : Nat, i = .int .i64 k ∧ k ≤ len ∧ Gr W1 wr ∧ Hid (∀ j, j < k → ownE l ns j = 0)) (fun i _ => len - (intOf i).toNat)
  case atStart => exact ⟨0, rfl, Nat.zero_le _, Gr.refl _, fun j hj => by omega⟩
  case round =>
   obtain ⟨k, rfl, hk, hg, HN⟩ := hrel
   have HG := hiD hg
   have c0 := hg.cell M0.out
   have c1 := hg.cell M1.out
   have c2 := hg.cell M2.out
   have nn := lcc wr _ c0
   clear hg m0
   by_cases hlt : k < len
   ·obtain ⟨n, hn⟩ : ∃ n, ns[k]? = some n := ⟨_, gE (by rw [HL.out]; exact hlt)⟩
    have hd : decide ((k : Int) < (len : Int)) = true := by simp; omega
    have hfc := own_call most SA sn sc A len c l ns k n wr (HE.out.gr (G1.out.trans HG.out)) hn (fun j p hj hp => by
     have h1 := HN.out j (by omega)
     unfold ownE at h1
     rw [hp] at h1
     exact nodeE_depth h1)
    have hoe : ownE l ns k = nodeE l (topN ns k) n := by unfold ownE; rw [hn]
    rw [← hoe] at hfc
    have HFC := hiD hfc
    obtain ⟨oe, hoe2⟩ : ∃ oe, oe = ownE l ns k := ⟨_, rfl⟩
    rw [← hoe2] at HFC
    have HOE := hiD hoe2
    clear hfc hoe hoe2 hn
    by_cases hz : oe = 0
    ·subst hz
     go_wp2_with (go_at_call 70; refine HFC.out.mono ?_; rintro e w' ⟨rfl, hgw⟩; have HGW := hiD hgw; clear hgw)
     exact tZ52
    ·have hne : (oe != 0) = true := by simpa using hz
     have hv : ce = oe := by
      exact tZ20
     have HCE2 := hiD hv
     clear hv hz
     go_wp2_with (go_at_call 70; refine HFC.out.mono ?_; rintro e w' ⟨rfl, hgw⟩; have HGW := hiD hgw; clear hgw)
     go_ret
     exact ⟨by rw [HCE2.out]; rfl, G1.out.trans (HG.out.trans HGW.out)⟩
   ·obtain rfl : k = len := by omega
    have hd : decide ((k : Int) < (k : Int)) = false := by simp
    have hf0 : firstE (ownE l ns) k 0 = 0 := by rw [firstE_zero]; intro j _ hj; exact HN.out j (by omega)
    have hv : ce = if (List.range k).all (famAt2 ns) then 0 else 20 := by have := HV.out; rw [hf0] at this; simpa using this
    have HV2 := hiD hv
    have hall : ∀ j, j < ns.length → ownE l ns j = 0 := fun j hj => HN.out j (by have := HL.out; omega)
    have HALL := hiD hall
    clear hv hf0 hall HV
    go_upto_region 13 with fail
    have HGO := hiD (G1.out.trans HG.out)
    clear c0 c1 c2 nn
    obtain ⟨wo, hwo⟩ : ∃ wo, wo = wr := ⟨wr, rfl⟩
    rw [← hwo] at HG HGO ⊢
    clear hwo
    go_loopw [8] (fun i wr => ∃ q : Nat, i = .int .i64 q ∧ q ≤ k ∧ Hid (Gr wo wr) ∧ Hid (∀ j, j < q → famAt2 ns j = true)) (fun i _ => k - (intOf i).toNat)
    case atStart => exact ⟨0, rfl, Nat.zero_le _, Gr.refl _, fun j hj => by omega⟩
    case round =>
     obtain ⟨q, rfl, hq, HG2, HF⟩ := hrel
     have hgg := HG.out.trans HG2.out
     have c0 := hgg.cell M0.out
     have nn := lcc wr _ c0
     have HGG := hiD (G1.out.trans hgg)
     clear hgg
     by_cases hlt : q < k
     ·obtain ⟨n, hn⟩ : ∃ n, ns[q]? = some n := ⟨_, gE (by rw [HL.out]; exact hlt)⟩
      have hd2 : decide ((q : Int) < (k : Int)) = true := by simp; omega
      have hz := HALL.out q (by rw [HL.out]; exact hlt)
      unfold ownE at hz
      rw [hn] at hz
      have hkk := nodeE_top hz
      have hdd := nodeE_depth hz
      have HPA := hiD (fun w2 (h : Gr wr w2) => parent_call A k c ns q n w2 (HE.out.nd.gr (HGG.out.trans h)) HL.out (by omega) hn)
      have HFA := hiD (fun w2 (h : Gr wr w2) => fam2_call A k c ns q n (parN ns n.depth q) (pkAt ns q n) (pmAt ns q n) w2 (HE.out.nd.gr (HGG.out.trans h)) HL.out (by omega) hn hdd.1 hdd.2 hkk.2.1 hkk.2.2 (par_ok HALL.out hn))
      have hfa : famAt2 ns q = famR n.lf.kind n.depth ((kidsR ns q n).map (kindAt ns)) (pkAt ns q n) (pmAt ns q n) := by unfold famAt2; rw [hn]
      rw [← hfa] at HFA
      obtain ⟨pr, hpr⟩ : ∃ pr, pr = parN ns n.depth q := ⟨_, rfl⟩
      rw [← hpr] at HPA HFA
      obtain ⟨fb, hfb⟩ : ∃ fb, fb = famAt2 ns q := ⟨_, rfl⟩
      rw [← hfb] at HFA
      have HFB := hiD hfb
      clear hz hkk hdd hfa hpr hfb hn
      go_upto_region 15 with fail
      refine free_grown [1, 3] [0, 2] [4, 5] [6] (by kernel_rfl) (fun d _ _ _ _ h => by cases d <;> exact h) ?_
      simp only [List.filterMap_cons, List.filterMap_nil, List.getElem?_cons_succ, List.getElem?_cons_zero]
      repeat (refine wpPure_step (fun K hK => ?_); go_simp; refine hK _ ?_; clear hK K)
      refine wpPure_nil ?_
      refine wpTake_val rfl (.agg #[.slice A k c]) (fun w' hg' => ?_) ?_
      ·have := hg'.cell c0
       go_simp
      refine wpTake_val rfl (.agg #[.slice A k c]) (fun w' hg' => ?_) ?_
      ·have := hg'.cell c0
       go_simp
      refine wpTake_nil ?_
      refine wpU_step rfl (fun K hK => ?_)
      go_simp
      refine (HPA.out wr.drew (Gr.refl wr).drew).mono ?_
      rintro e w2 ⟨rfl, hg2⟩
      have hw2 := (Gr.refl wr).drew.trans hg2
      refine hK.out _ _ hw2 ?_
      have HW2 := hiD hw2
      clear hK K hg2 hw2
      refine wpU_step rfl (fun K hK => ?_)
      go_simp
      refine (HFA.out w2 HW2.out).mono ?_
      rintro e w4 ⟨rfl, hg4⟩
      have hw4 := HW2.out.trans hg4
      refine hK.out _ _ hw4 ?_
      have HW4 := hiD hw4
      clear hK K hg4 hw4
      refine wpU_nil ?_
      cases fb with
      | true =>
        go_wp2_with fail
        go_roundw
        case rel =>
         refine ⟨q + 1, by go_num, by omega, HG2.out.trans HW4.out, fun j hj => ?_⟩
         rcases Nat.lt_or_ge j q with h | h
         ·exact HF.out j h
         ·rw [show j = q by omega]; exact HFB.out.symm
        case measure => simp [intOf]; omega
      | false =>
        have hv : ce = 20 := by
         have h1 : (List.range k).all (famAt2 ns) = false := by
          rw [List.all_eq_false]
          exact ⟨q, List.mem_range.2 hlt, by rw [← HFB.out]; simp⟩
         rw [HV2.out, h1]; rfl
        subst hv
        go_wp2_with fail
        go_ret
        exact ⟨rfl, HGG.out.trans HW4.out⟩
     ·obtain rfl : q = k := by omega
      have hd2 : decide ((q : Int) < (q : Int)) = false := by simp
      have hv : ce = 0 := by
       have h1 : (List.range q).all (famAt2 ns) = true := List.all_eq_true.2 fun j hj => HF.out j (List.mem_range.1 hj)
       rw [HV2.out, h1]; rfl
      subst hv
      go_wp2_with fail
      go_ret
      exact ⟨rfl, HGG.out⟩
 ·have d0 : (le != 0) = true := by simpa using h0
  have hv : ce = le := by have := HCE.out; rw [if_pos h0] at this; exact this
  subst hv
  clear HCE h0
  go_enter Tryz.func25, Tryz.ntmps25
  go_wp2_with (go_at_call 52; refine HSC.out.mono ?_; rintro e w' ⟨rfl, hgw⟩; have HG := hiD hgw; clear hgw)
  go_ret
  exact ⟨rfl, (((Gr.refl w).alloc _).alloc _).trans HG.out⟩
set_option maxRecDepth 100000 in
set_option maxHeartbeats 8000000 in
theorem plain2_call (most : Int) (SA : Option Addr) (sn sc : Nat) (A : Option Addr) (len c : Nat) (l : List Sg) (ns : List Nd) (w : World) (hE : LayEnv w most SA sn sc A len c l ns) :
 Calls Tryz.prog 29 #[lv most SA sn sc, .agg #[.slice A len c]] w (TextPost w (checkR most l ns) (plainR false ns)) := by
 have hlen := hE.nb
 have HL := hiD hE.nl
 have hck := checkR2_call most SA sn sc A len c l ns (((w.alloc (.cells #[.int .i64 most, .slice SA sn sc] 24)).alloc (.cells #[.slice A len c] 33)).alloc (.cells #[.slice none 0 0] 33)) (hE.gr ((((Gr.refl w).alloc _).alloc _).alloc _))
 have HCK := hiD hck
 have HE := hiD hE
 clear hE hck
 have hdep : checkR most l ns = 0 → ∀ (j : Nat) (n : Nd), ns[j]? = some n → 0 ≤ n.depth ∧ n.depth ≤ 4 := by
  intro h0 j n hn
  unfold checkR at h0
  exact tZ45
 obtain ⟨ce, hce⟩ : ∃ ce, ce = checkR most l ns := ⟨_, rfl⟩
 rw [← hce] at HCK hdep ⊢
 have HDEP := hiD hdep
 clear hce hdep
 by_cases h0 : ce = 0
 ·subst h0
  go_enter Tryz.func29, Tryz.ntmps29
  go_upto_region 4 with (go_at_call 25; refine HCK.out.mono ?_; rintro e w' ⟨rfl, hgr⟩; have hgw := hgr.b; clear hgr; have HG := hiD hgw; have m0 := bel_cell (p := ⟨w.heap.size + 1, 0, none⟩) (v := .slice A len c) hgw (by go_simp); have m1 := bel_cell (p := ⟨w.heap.size + 2, 0, none⟩) (v := .slice none 0 0) hgw (by go_simp); have f1 := bel_frozen (p := ⟨w.heap.size + 2, 0, none⟩) (v := .slice none 0 0) hgw (by go_simp) (by go_simp); clear hgw)
  have hbw : Below w.heap.size w w' := ((((Gr.refl w).alloc _).alloc _).alloc _).b.trans (HG.out.mono (by simp; omega))
  have HBW := hiD hbw
  have hw1 : w.heap.size + 2 < w'.heap.size := lcc w' _ m1
  have hw0 : w.heap.size + 1 < w'.heap.size := lcc w' _ m0
  clear HG HCK hbw
  go_wp2
  have hOB : w'.heap.size < (w'.alloc (.cells #[.slice none 0 0] 33)).heap.size := by simp
  have h00 : BoxN (w'.alloc (.cells #[.slice none 0 0] 33)) w'.heap.size (w'.alloc (.cells #[.slice none 0 0] 33)) (.slice none 0 0) [] := ⟨Upto.refl _ _, heap_alloc_new _ _, OwnN.nil _ _⟩
  have q0 : (w'.alloc (.cells #[.slice none 0 0] 33)).cell? ⟨w.heap.size + 1, 0, none⟩ = some (.slice A len c) := by go_simp
  have q1 : (w'.alloc (.cells #[.slice none 0 0] 33)).cell? ⟨w.heap.size + 2, 0, none⟩ = some (.slice none 0 0) := by go_simp
  have q2 : (w'.alloc (.cells #[.slice none 0 0] 33)).frozen? ⟨w.heap.size + 2, 0, none⟩ = false := by go_simp
  have hb2 : Below w.heap.size w (w'.alloc (.cells #[.slice none 0 0] 33)) := HBW.out.alloc HBW.out.size _
  obtain ⟨OB, hob⟩ : ∃ OB, OB = w'.heap.size := ⟨_, rfl⟩
  rw [← hob] at hOB h00 ⊢
  have hob2 : w.heap.size + 2 < OB := by omega
  generalize w'.alloc (.cells #[.slice none 0 0] 33) = W0 at hOB h00 q0 q1 q2 hb2 ⊢
  have H00 := hiD h00
  have Q0 := hiD q0
  have Q1 := hiD q1
  have Q2 := hiD q2
  have HB2 := hiD hb2
  clear h00 q0 q1 q2 hb2 m0 m1 f1 hob hw1 hw0
  go_loopw [9, 8] (fun i ls wr => ∃ (k : Nat) (ins : Bool) (v : Value) (out : List Nd), i = .int .i64 k ∧ ls = .bool ins ∧ k ≤ len ∧ out.length ≤ k ∧ Hid (BoxN W0 OB wr v out) ∧ Hid (plainR false ns = out ++ plainR ins (ns.drop k))) (fun i _ _ => len - (intOf i).toNat)
  case atStart => exact ⟨0, false, _, [], rfl, rfl, Nat.zero_le _, Nat.zero_le _, H00.out, rfl⟩
  case round =>
   obtain ⟨k, ins, v, out, rfl, rfl, hk, hol, HBX, HPL⟩ := hrel
   have hc0 := HBX.out.up.cell (by omega) Q0.out
   have nc0 := lcc wr _ hc0
   obtain ⟨hcb, hfb⟩ := cell_of_box HBX.out.box
   have ncb := lcc wr _ hcb
   by_cases hlt : k < len
   ·obtain ⟨n, hn⟩ : ∃ n, ns[k]? = some n := ⟨_, gE (by rw [HL.out]; exact hlt)⟩
    obtain ⟨blk, off, rfl, hat⟩ := (HE.out.nd.below (HBX.out.up.below2 HB2.out (by omega))).2 k n hn
    have hblk : blk < wr.heap.size := lcc wr _ hat.c0
    have hdp := HDEP.out trivial k n hn
    obtain ⟨⟨kd, sg, tn, mr, sta, mn, mx⟩, dd⟩ := n
    simp only [NdAt, nv] at hat hdp
    have hdrop : ns.drop k = ⟨⟨kd, sg, tn, mr, sta, mn, mx⟩, dd⟩ :: ns.drop (k + 1) := by
     rw [List.drop_eq_getElem_cons (gO hn).1, (gO hn).2]
    have hpl := HPL.out
    rw [hdrop, plainR] at hpl
    have HPL2 := hiD hpl
    have hd : decide ((k : Int) < (len : Int)) = true := by simp; omega
    have tk : ((k : Nat) : Int).toNat = k := by omega
    have szW : W0.heap.size ≤ wr.heap.size := HBX.out.up.size
    clear hn hdrop hpl
    by_cases hd0 : dd = 0
    ·subst hd0
     by_cases hk7 : kd = 7
     ·subst hk7
      go_wp2_with ((at_builtin; refine wpList_nds rfl _ _ rfl W0.heap.size _ out rfl (HBX.out.own.gr gw) _ 0 _ [⟨⟨2, sg, tn, mr, sta, mn, mx⟩, 0⟩] 1 rfl rfl (fun j u hu => (World.cell?_alloc_at _ _ _ _ (by go_simp)).trans (by simpa [ndc] using hu)) (by omega) (Nat.le_trans szW (show Gr wr _ from gw).b.size) ?_; intro v4 w4 HO4 HS4; obtain ⟨g4, c4, hv4, _⟩ := HO4.out.form; subst hv4; have BX4 := hiD ((HBX.out.gr gw).step hOB HS4.out HO4.out).2; obtain ⟨hc4, hf4⟩ := cell_of_box ((HBX.out.gr gw).step hOB HS4.out HO4.out).1))
      go_roundw
      case rel =>
       refine ⟨k + 1, false, .slice (some ⟨g4, 0, none⟩) (out.length + 1) c4, out ++ [(⟨⟨2, sg, tn, mr, sta, mn, mx⟩, 0⟩ : Nd)], by go_num, rfl, by omega, by rw [List.length_append, List.length_singleton]; omega, BX4.out, ?_⟩
       show plainR false ns = _
       rw [HPL2.out]
       simp [unhon]
      case measure => simp [intOf]; omega
     ·have d7 : (kd == 7) = false := by simpa using hk7
      have HK7 := hiD hk7
      clear hk7
      go_wp2_with ((at_builtin; refine wpList_nds rfl _ _ rfl W0.heap.size _ out rfl (HBX.out.own.gr gw) _ 0 _ [⟨⟨kd, sg, tn, mr, sta, mn, mx⟩, 0⟩] 1 rfl rfl (fun j u hu => (World.cell?_alloc_at _ _ _ _ (by go_simp)).trans (by simpa [ndc] using hu)) (by omega) (Nat.le_trans szW (show Gr wr _ from gw).b.size) ?_; intro v4 w4 HO4 HS4; obtain ⟨g4, c4, hv4, _⟩ := HO4.out.form; subst hv4; have BX4 := hiD ((HBX.out.gr gw).step hOB HS4.out HO4.out).2; obtain ⟨hc4, hf4⟩ := cell_of_box ((HBX.out.gr gw).step hOB HS4.out HO4.out).1))
      go_roundw
      case rel =>
       refine ⟨k + 1, false, .slice (some ⟨g4, 0, none⟩) (out.length + 1) c4, out ++ [(⟨⟨kd, sg, tn, mr, sta, mn, mx⟩, 0⟩ : Nd)], by go_num, rfl, by omega, by rw [List.length_append, List.length_singleton]; omega, BX4.out, ?_⟩
       show plainR false ns = _
       rw [HPL2.out]
       simp [unhon, HK7.out]
      case measure => simp [intOf]; omega
    ·have d0 : (dd == 0) = false := by simpa using hd0
     have HD0 := hiD hd0
     clear hd0
     by_cases hk7 : kd = 7
     ·subst hk7
      by_cases hd1 : dd = 1
      ·subst hd1
       go_wp2_with fail
       go_roundw
       case rel =>
        refine ⟨k + 1, true, v, out, by go_num, rfl, by omega, by omega, HBX.out.gr ((Gr.refl wr).alloc _), ?_⟩
        show plainR false ns = _
        rw [HPL2.out]
        simp
       case measure => simp [intOf]; omega
      ·have e1 : (dd == 1) = false := by simpa using hd1
       have HD1 := hiD hd1
       clear hd1
       cases ins
       ·
        go_wp2_with ((at_builtin; refine wpList_nds rfl _ _ rfl W0.heap.size _ out rfl (HBX.out.own.gr gw) _ 0 _ [⟨⟨2, sg, tn, mr, sta, mn, mx⟩, dd⟩] 1 rfl rfl (fun j u hu => (World.cell?_alloc_at _ _ _ _ (by go_simp)).trans (by simpa [ndc] using hu)) (by omega) (Nat.le_trans szW (show Gr wr _ from gw).b.size) ?_; intro v4 w4 HO4 HS4; obtain ⟨g4, c4, hv4, _⟩ := HO4.out.form; subst hv4; have BX4 := hiD ((HBX.out.gr gw).step hOB HS4.out HO4.out).2; obtain ⟨hc4, hf4⟩ := cell_of_box ((HBX.out.gr gw).step hOB HS4.out HO4.out).1))
        go_roundw
        case rel =>
         refine ⟨k + 1, false, .slice (some ⟨g4, 0, none⟩) (out.length + 1) c4, out ++ [(⟨⟨2, sg, tn, mr, sta, mn, mx⟩, dd⟩ : Nd)], by go_num, rfl, by omega, by rw [List.length_append, List.length_singleton]; omega, BX4.out, ?_⟩
         show plainR false ns = _
         rw [HPL2.out]
         simp [unhon, HD0.out, HD1.out]
        case measure => simp [intOf]; omega
       ·
        go_wp2_with ((at_builtin; refine wpList_nds rfl _ _ rfl W0.heap.size _ out rfl (HBX.out.own.gr gw) _ 0 _ [⟨⟨2, sg, tn, mr, sta, mn, mx⟩, dd - 1⟩] 1 rfl rfl (fun j u hu => (World.cell?_alloc_at _ _ _ _ (by go_simp)).trans (by simpa [ndc] using hu)) (by omega) (Nat.le_trans szW (show Gr wr _ from gw).b.size) ?_; intro v4 w4 HO4 HS4; obtain ⟨g4, c4, hv4, _⟩ := HO4.out.form; subst hv4; have BX4 := hiD ((HBX.out.gr gw).step hOB HS4.out HO4.out).2; obtain ⟨hc4, hf4⟩ := cell_of_box ((HBX.out.gr gw).step hOB HS4.out HO4.out).1))
        go_roundw
        case rel =>
         refine ⟨k + 1, true, .slice (some ⟨g4, 0, none⟩) (out.length + 1) c4, out ++ [(⟨⟨2, sg, tn, mr, sta, mn, mx⟩, dd - 1⟩ : Nd)], by go_num, rfl, by omega, by rw [List.length_append, List.length_singleton]; omega, BX4.out, ?_⟩
         show plainR false ns = _
         rw [HPL2.out]
         simp [unhon, HD0.out, HD1.out]
        case measure => simp [intOf]; omega
     ·have d7 : (kd == 7) = false := by simpa using hk7
      have HK7 := hiD hk7
      clear hk7
      cases ins
      ·
       go_wp2_with ((at_builtin; refine wpList_nds rfl _ _ rfl W0.heap.size _ out rfl (HBX.out.own.gr gw) _ 0 _ [⟨⟨kd, sg, tn, mr, sta, mn, mx⟩, dd⟩] 1 rfl rfl (fun j u hu => (World.cell?_alloc_at _ _ _ _ (by go_simp)).trans (by simpa [ndc] using hu)) (by omega) (Nat.le_trans szW (show Gr wr _ from gw).b.size) ?_; intro v4 w4 HO4 HS4; obtain ⟨g4, c4, hv4, _⟩ := HO4.out.form; subst hv4; have BX4 := hiD ((HBX.out.gr gw).step hOB HS4.out HO4.out).2; obtain ⟨hc4, hf4⟩ := cell_of_box ((HBX.out.gr gw).step hOB HS4.out HO4.out).1))
       go_roundw
       case rel =>
        refine ⟨k + 1, false, .slice (some ⟨g4, 0, none⟩) (out.length + 1) c4, out ++ [(⟨⟨kd, sg, tn, mr, sta, mn, mx⟩, dd⟩ : Nd)], by go_num, rfl, by omega, by rw [List.length_append, List.length_singleton]; omega, BX4.out, ?_⟩
        show plainR false ns = _
        rw [HPL2.out]
        simp [unhon, HD0.out, HK7.out]
       case measure => simp [intOf]; omega
      ·
       go_wp2_with ((at_builtin; refine wpList_nds rfl _ _ rfl W0.heap.size _ out rfl (HBX.out.own.gr gw) _ 0 _ [⟨⟨kd, sg, tn, mr, sta, mn, mx⟩, dd - 1⟩] 1 rfl rfl (fun j u hu => (World.cell?_alloc_at _ _ _ _ (by go_simp)).trans (by simpa [ndc] using hu)) (by omega) (Nat.le_trans szW (show Gr wr _ from gw).b.size) ?_; intro v4 w4 HO4 HS4; obtain ⟨g4, c4, hv4, _⟩ := HO4.out.form; subst hv4; have BX4 := hiD ((HBX.out.gr gw).step hOB HS4.out HO4.out).2; obtain ⟨hc4, hf4⟩ := cell_of_box ((HBX.out.gr gw).step hOB HS4.out HO4.out).1))
       go_roundw
       case rel =>
        refine ⟨k + 1, true, .slice (some ⟨g4, 0, none⟩) (out.length + 1) c4, out ++ [(⟨⟨kd, sg, tn, mr, sta, mn, mx⟩, dd - 1⟩ : Nd)], by go_num, rfl, by omega, by rw [List.length_append, List.length_singleton]; omega, BX4.out, ?_⟩
        show plainR false ns = _
        rw [HPL2.out]
        simp [unhon, HD0.out, HK7.out]
       case measure => simp [intOf]; omega
   ·obtain rfl : k = len := by omega
    have hd : decide ((k : Int) < (k : Int)) = false := by simp
    have hr1 := HBX.out.up.cell (by omega) Q1.out
    have hf1 : wr.frozen? ⟨w.heap.size + 2, 0, none⟩ = false := (World.frozen?_of_block (HBX.out.up.keep (w.heap.size + 2) (lcc W0 _ Q1.out) (by omega))).trans Q2.out
    have hout : plainR false ns = out := by
     rw [HPL.out, List.drop_eq_nil_of_le (by rw [HL.out]; exact Nat.le_refl _)]
     simp [plainR]
    have HOUT := hiD hout
    clear hout
    rcases HBX.out.own.2 with ⟨rfl, _⟩ | ⟨g, cap, cur, rfl, _⟩
    all_goals
     go_wp2_with fail
     refine bodyPost_ret (res33t Tryz.results29 rfl rfl (World.cell?_setCell_same' _ _ _ (by rw [hr1]; rfl))) rfl ⟨_, rfl, ?_, ?_⟩
     ·rw [if_pos rfl, HOUT.out]
      exact ((HBX.out.own.by (setCell_by _ _ _ _) (fun k e => by cases e; omega)).lower HB2.out.size)
     ·exact (HBX.out.up.below2 HB2.out (by omega)).setCell (p := ⟨w.heap.size + 2, 0, none⟩) (Nat.le_add_right _ _) _
 ·have d0 : (ce != 0) = true := by simp [h0]
  have H0 := hiD h0
  clear h0
  go_enter Tryz.func29, Tryz.ntmps29
  go_wp2_with (go_at_call 25; refine HCK.out.mono ?_; rintro e w' ⟨rfl, hgr⟩; have hgw := hgr.b; clear hgr; have HG := hiD hgw; have m1 := bel_cell (p := ⟨w.heap.size + 2, 0, none⟩) (v := .slice none 0 0) hgw (by go_simp); have f1 := bel_frozen (p := ⟨w.heap.size + 2, 0, none⟩) (v := .slice none 0 0) hgw (by go_simp) (by go_simp); clear hgw)
  have hbw : Below w.heap.size w w' := ((((Gr.refl w).alloc _).alloc _).alloc _).b.trans (HG.out.mono (by simp; omega))
  refine bodyPost_ret (res33t Tryz.results29 rfl rfl (World.cell?_setCell_same' _ _ _ (by rw [m1]; rfl))) rfl ⟨_, rfl, ?_, ?_⟩
  ·rw [if_neg H0.out]; exact OwnN.nil _ _
  ·exact hbw.setCell (p := ⟨w.heap.size + 2, 0, none⟩) (Nat.le_add_right _ _) _
end Go.Proofs.OGW
