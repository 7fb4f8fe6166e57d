import Derived.Test.YtmejcmollpbcfaaGreatP15
set_option linter.all false
namespace Go.Proofs.OGW
open Go.RowKit Go.Sort OG Go.Shelf Go.PlainAid
attribute [local go_sem] sA fv sB sG sC Nat.zero_add
attribute [local go_sem ↓] ld66 ld51 st66 st51
theorem idxC_lt {l : List Sg} {k : Nat} {s : Sg} (h : l[k]? = some s) : decide (idxC s.code l < (k : Int)) = ((l.take k).map Sg.code).any fun t => decide (t.data.toList = s.code.data.toList) := by
 have hk := (gO h).1
 have hs := (gO h).2
 have key : ∀ a b : ByteArray, (a.toList == b.toList) = decide (a.data.toList = b.data.toList) := fun a b => by rw [Bool.eq_iff_iff]; simp [ByteArray.toList_eq]
 unfold idxC
 cases hf : l.findIdx? (fun u => u.code.toList == s.code.toList) with
 | none =>
   have := List.findIdx?_eq_none_iff.1 hf s (by rw [← hs]; exact List.getElem_mem hk)
   simp at this
 | some i =>
   obtain ⟨hi, hp, hn⟩ := List.findIdx?_eq_some_iff_getElem.1 hf
   rw [Bool.eq_iff_iff]
   simp only [decide_eq_true_eq, List.any_map, List.any_eq_true, Function.comp]
   constructor
   ·intro hlt
    refine ⟨l[i], ?_, ?_⟩
    ·rw [List.mem_take_iff_getElem]; exact ⟨i, by omega, rfl⟩
    ·rw [key] at hp; simpa using hp
   ·rintro ⟨u, hu, hc⟩
    rw [List.mem_take_iff_getElem] at hu
    obtain ⟨j, hj, rfl⟩ := hu
    rcases Nat.lt_or_ge j i with hji | hji
    ·have := hn j hji
     rw [key] at this
     simp at this
     exact absurd (Array.toList_inj.1 hc) this
    ·omega
theorem tZ96 {P : Prop} (h : P := by
 refine wpQuiet_nil ?_
 rintro w' ⟨⟨nq, osq⟩, rfl⟩
 go_wp2
 go_ret
 exact ⟨by rw [HVE.out]; rfl, G1.out.trans (HG2.out.trans (Gr.of_eq _ _))⟩) : P := h
set_option maxRecDepth 100000 in
set_option maxHeartbeats 4000000 in
theorem checkR1_call (most : Int) (A : Option Addr) (c : Nat) (l : List Sg) (w : World) (hr : SgRow w A l) (len : Nat) (hl : l.length = len) (hlen : len ≤ 140737488355328) :
 Calls Tryz.prog 52 #[lv most A len c] w fun e w' => e = .returned (.int .i64 (listE most l)) ∧ Gr w w' := by
 have HR := hiD hr
 have HL := hiD hl
 clear hr hl
 by_cases h1 : 200 < len
 ·have hv : listE most l = 2 := by have := HL.out; simp [listE]; omega
  have d1 : decide (200 < (len : Int)) = true := by simp; omega
  rw [hv]
  clear hv h1
  go_enter Tryz.func52, Tryz.ntmps52
  exact tZ43
 have d1 : decide (200 < (len : Int)) = false := by simp; omega
 have hv1 : listE most l = if most < 1 ∨ 9 < most then 13 else signsE most [] l := by have := HL.out; unfold listE; rw [if_neg (by omega)]
 by_cases h2 : most < 1
 ·have hv : listE most l = 13 := by rw [hv1, if_pos (.inl h2)]
  have d2 : decide (most < 1) = true := by simp; omega
  rw [hv]
  clear hv hv1 h2
  go_enter Tryz.func52, Tryz.ntmps52
  exact tZ43
 have d2 : decide (most < 1) = false := by simp; omega
 by_cases h3 : 9 < most
 ·have hv : listE most l = 13 := by rw [hv1, if_pos (.inr h3)]
  have d3 : decide (9 < most) = true := by simp; omega
  rw [hv]
  clear hv hv1 h2 h3
  go_enter Tryz.func52, Tryz.ntmps52
  exact tZ43
 have d3 : decide (9 < most) = false := by simp; omega
 have hv : listE most l = signsE most [] l := by rw [hv1, if_neg (by omega)]
 rw [hv]
 clear hv hv1
 have hlen2 : len ≤ 200 := by omega
 clear h1 h2 h3
 go_enter Tryz.func52, Tryz.ntmps52
 go_upto_region 5 with fail
 have g1 : Gr w (w.alloc (.cells #[.int .i64 most, .slice A len c] 24)) := (Gr.refl w).alloc _
 have m0 : (w.alloc (.cells #[.int .i64 most, .slice A len c] 24)).cell? ⟨w.heap.size, 0, none⟩ = some (.int .i64 most) := by go_simp
 have m1 : (w.alloc (.cells #[.int .i64 most, .slice A len c] 24)).cell? ⟨w.heap.size, 1, none⟩ = some (.slice A len c) := by go_simp
 generalize w.alloc (.cells #[.int .i64 most, .slice A len c] 24) = W1 at g1 m0 m1 ⊢
 have G1 := hiD g1
 have M0 := hiD m0
 have M1 := hiD m1
 clear g1 m0 m1 d1 d2 d3
 go_wp2
 go_loopw [3] (fun i wr => ∃ k : Nat, i = .int .i64 k ∧ k ≤ len ∧ Gr W1 wr ∧ Hid (signsE most [] l = signsE most ((l.take k).map Sg.code) (l.drop k))) (fun i _ => len - (intOf i).toNat)
 case atStart => exact ⟨0, rfl, Nat.zero_le _, Gr.refl _, rfl⟩
 case round =>
  obtain ⟨k, rfl, hk, hg2, HE⟩ := hrel
  have HG2 := hiD hg2
  have q0 := hg2.cell M0.out
  have q1 := hg2.cell M1.out
  have nn := lcc wr _ q0
  clear hg2
  by_cases hlt : k < len
  ·have hd : decide ((k : Int) < (len : Int)) = true := by simp; omega
   obtain ⟨s, hsk⟩ : ∃ s, l[k]? = some s := ⟨_, gE (by rw [HL.out]; exact hlt)⟩
   obtain ⟨blk, off, rfl, hat⟩ := HR.out.2 k s hsk
   have hat2 := hat.gr (G1.out.trans HG2.out)
   have c0 := hat2.c0
   have c1 := hat2.c1
   have c2 := hat2.c2
   have c3 := hat2.c3
   obtain ⟨VA, vc, c4, hvc, hvr⟩ := hat2.c4
   have hblk : blk < wr.heap.size := lcc wr _ c0
   have HV := hiD hvr
   have HSK := hiD hsk
   have HIX := hiD (idxC_lt hsk)
   have hdrop : l.drop k = s :: l.drop (k + 1) := by
    rw [List.drop_eq_getElem_cons (gO hsk).1, (gO hsk).2]
   have hSE : signsE most [] l = signsE most ((l.take k).map Sg.code) (s :: l.drop (k + 1)) := by rw [HE.out, hdrop]
   have HSE := hiD hSE
   obtain ⟨vn, hvn⟩ : ∃ vn, vn = s.vals.length := ⟨_, rfl⟩
   rw [← hvn] at c4 hvc
   have HVN := hiD hvn
   have hcd : Ans 111 #[.string s.code] (.bool (codeB s.code)) := fun w => (codeR_call s.code w).mono fun e w' ⟨h1, h2⟩ => ⟨h1, by rw [h2]; exact Gr.refl _⟩
   have HCD := hiD hcd
   clear hsk hat hat2 hvr hdrop hSE hcd hvn
   cases hcb : codeB s.code
   ·have hv : signsE most [] l = 10 := by rw [HSE.out]; simp [signsE, hcb]
    have HVE := hiD hv
    rw [hcb] at HCD
    clear hv hcb
    go_wp2_with fail
    refine wp_region_quiet_grown mixed (by kernel_rfl) ?_
    repeat (go_big_quiet_step ((go_at_call 111; exact HCD.out.quiet)))
    exact tZ96
   ·rw [hcb] at HCD
    have HCB := hiD hcb
    clear hcb
    have hin : ∀ m os, Calls Tryz.prog 112 #[lv most (some ⟨blk, off, none⟩) len c, .string s.code] (Sort.grow (wr.drewN m) os) fun e w'' => e = .returned (.int .i64 (idxC s.code l)) ∧ ∃ p : GrownBy, w'' = Sort.grow (wr.drewN p.n) p.os := fun m os =>
     Calls.grown_of ((idxCode_call most (some ⟨blk, off, none⟩) c l s.code _ (HR.out.gr (G1.out.trans (HG2.out.trans (Gr.of_eq m os)))) len HL.out (by omega)).mono fun _ _ ⟨he, hg⟩ => ⟨he, hg.eq⟩)
    have HIN := hiD hin
    obtain ⟨ix, hix⟩ : ∃ ix, ix = idxC s.code l := ⟨_, rfl⟩
    rw [← hix] at HIN HIX
    clear hin hix
    cases hany : ((l.take k).map Sg.code).any fun t => decide (t.data.toList = s.code.data.toList)
    ·rw [hany] at HIX
     have d4 := HIX.out
     have HANY := hiD hany
     clear HIX hany
     go_wp2_with fail
     refine wp_region_quiet_grown mixed (by kernel_rfl) ?_
     repeat (go_big_quiet_step ((first | (go_at_call 111; exact HCD.out.quiet) | (go_at_call 112; exact HIN.out _ _))))
     refine wpQuiet_nil ?_
     rintro w' ⟨⟨nq, osq⟩, rfl⟩
     clear HIN HCD
     have hg3 : Gr wr (Sort.grow (wr.drewN nq) osq) := Gr.of_eq _ _
     have q0' := hg3.cell q0
     have q1' := hg3.cell q1
     have c0' := hg3.cell c0
     have c1' := hg3.cell c1
     have c2' := hg3.cell c2
     have c3' := hg3.cell c3
     have c4' := hg3.cell c4
     have nn' := lcc _ _ q0'
     have hblk' := lcc _ _ c0'
     have hsg : ∀ m os, Calls Tryz.prog 113 #[sgv s VA vn vc, .int .i64 most] (Sort.grow ((Sort.grow (wr.drewN nq) osq).drewN m) os) fun e w'' => e = .returned (.int .i64 (signE most s)) ∧ ∃ p : GrownBy, w'' = Sort.grow ((Sort.grow (wr.drewN nq) osq).drewN p.n) p.os := fun m os =>
      Calls.grown_of ((sign_call most s VA vc _ (HV.out.gr (hg3.trans (Gr.of_eq m os))) vn HVN.out.symm hvc).mono fun _ _ ⟨he, hg⟩ => ⟨he, hg.eq⟩)
     have HSG := hiD hsg
     have HG3 := hiD hg3
     clear hsg hg3 q0 q1 c0 c1 c2 c3 c4 nn hblk
     generalize Sort.grow (wr.drewN nq) osq = w3 at HSG HG3 q0' q1' c0' c1' c2' c3' c4' nn' hblk' ⊢
     have hstep : signsE most [] l = if signE most s = 0 then signsE most ((l.take k).map Sg.code ++ [s.code]) (l.drop (k + 1)) else signE most s := by
      rw [HSE.out]
      simp only [signsE, HCB.out, HANY.out, Bool.not_true, Bool.false_or, Bool.false_eq_true, if_false, signE]
      by_cases hs : sizeBad s = true
      ·simp [hs]
      ·simp only [hs, if_false]
       by_cases h12 : 12 < s.vals.length <;> simp [h12]
     have HSTEP := hiD hstep
     obtain ⟨se, hse⟩ : ∃ se, se = signE most s := ⟨_, rfl⟩
     rw [← hse] at HSG HSTEP
     clear hstep hse
     go_wp2_with fail
     refine wp_region_quiet_grown mixed (by kernel_rfl) ?_
     repeat (go_big_quiet_step ((go_at_call 113; exact HSG.out _ _)))
     refine wpQuiet_nil ?_
     rintro w' ⟨⟨nq, osq⟩, rfl⟩
     clear HSG
     by_cases hz : se = 0
     ·subst hz
      go_wp2_with fail
      go_roundw
      case rel =>
       have htk : (l.take (k + 1)).map Sg.code = (l.take k).map Sg.code ++ [s.code] := by
        have h1 := (gO HSK.out)
        obtain ⟨h2, h3⟩ := h1
        rw [List.take_succ_eq_append_getElem h2, List.map_append, h3]
        rfl
       exact ⟨k + 1, by go_num, by omega, HG2.out.trans (HG3.out.trans (Gr.of_eq _ _)), by show _ = _; rw [htk, HSTEP.out, if_pos rfl]⟩
      case measure => simp [intOf]; omega
     ·have hne : (se == 0) = false := by simpa using hz
      have hE : signsE most [] l = se := by rw [HSTEP.out, if_neg hz]
      have HE2 := hiD hE
      clear hE hz
      go_wp2_with fail
      go_ret
      exact ⟨by rw [HE2.out]; rfl, G1.out.trans (HG2.out.trans (HG3.out.trans (Gr.of_eq _ _)))⟩
    ·rw [hany] at HIX
     have d4 := HIX.out
     have hv : signsE most [] l = 10 := by
      rw [HSE.out]
      simp only [signsE, hany, Bool.or_true, if_true]
     have HVE := hiD hv
     clear HIX hany hv
     go_wp2_with fail
     refine wp_region_quiet_grown mixed (by kernel_rfl) ?_
     repeat (go_big_quiet_step ((first | (go_at_call 111; exact HCD.out.quiet) | (go_at_call 112; exact HIN.out _ _))))
     exact tZ96
  ·obtain rfl : k = len := by omega
   have hd : decide ((k : Int) < (k : Int)) = false := by simp
   have hE : signsE most [] l = 0 := by
    rw [HE.out, List.drop_eq_nil_of_le (by rw [HL.out]; exact Nat.le_refl _)]
    rfl
   have HE2 := hiD hE
   clear hE
   go_wp2_with fail
   go_ret
   exact ⟨by rw [HE2.out]; rfl, G1.out.trans HG2.out⟩
end Go.Proofs.OGW
namespace Go.Proofs.OGW
open Go.RowKit Go.Sort OG Go.Shelf
attribute [local go_sem] sA fv sB sG sC eqlR neqR eqlP neqP guard66' Nat.zero_add
attribute [local go_sem ↓] ld66 ld51 st66 st51 eq66 ne66
def nring (x : PB) : Bool := !decide (x.lf.kind = 5)
def z66 : Array Value := #[.int .i64 0, .int .i64 0, .int .i64 0, .bool false, .int .i64 0, .int .i64 0, .int .i64 0, .int .i64 0, .int .i64 0, .int .i64 0, .int .i64 0, .int .i64 0, .int .i64 0, .int .i64 0, .int .i64 0]
theorem zv66 (w : World) : (zeroValue 66).run Tryz.prog w = .ok (.agg z66) w := by
 obtain ⟨i0, hi, hz0, -, -⟩ := info_parts info66
 simp [zeroValue, typeInfo, hi, hz0, z66]
theorem z66_one : ∀ v ∈ z66, v.oneCell' = true := by
 intro v hv
 simp only [z66, List.mem_toArray, List.mem_cons, List.not_mem_nil, or_false] at hv
 rcases hv with h | h | h | h | h | h | h | h | h | h | h | h | h | h | h <;> subst h <;> rfl
theorem Held.clear {w0 : World} {n : Nat} {xs : List PB} {w : World} (h : Held w0 n xs w) {i k : Nat} (hi : i + k = xs.length) (hk : 0 < k) :
 ∃ w', (∀ ty c, (Builtin.clear_ #[25] ty #[.slice (some ⟨n, i * 15, none⟩) k c]).run Tryz.prog w = .ok (.tuple #[]) w') ∧ Held w0 n (xs.take i) w' := by
 obtain ⟨cs, h1, h2, h3⟩ := h.row
 obtain ⟨m, rfl⟩ : ∃ m, k = m + 1 := ⟨k - 1, by omega⟩
 obtain ⟨vs, hvs⟩ : ∃ vs, vs = (Builtin.zeroCells z66 (m + 1)).toList := ⟨_, rfl⟩
 have hl : vs.length = (m + 1) * 15 := by rw [hvs]; simp [size_zeroCells, z66]
 have hone : ∀ v ∈ vs, v.oneCell' = true := by
  intro v hv
  rw [hvs, Array.mem_toList_iff] at hv
  simp only [Builtin.zeroCells, Array.mem_map] at hv
  obtain ⟨j, _, rfl⟩ := hv
  have hj : j % z66.size < z66.size := Nat.mod_lt _ (by decide)
  rw [getElem!_pos z66 _ hj]
  exact z66_one _ (Array.getElem_mem hj)
 have hfit : i * 15 + 0 + vs.length ≤ cs.size := by omega
 have hst := run_storeCells_at Tryz.prog n (i * 15) 66 vs 0 cs w h1 hfit hone
 refine ⟨w.setRow n ((cs.toList.take (i * 15 + 0) ++ vs ++ cs.toList.drop (i * 15 + 0 + vs.length)).toArray), ?_, ?_⟩
 ·intro ty c
  rw [hvs] at hst ⊢
  simp only [Value.cells, z66] at hst
  simp [Builtin.clear_, run_underlying Tryz.underlying25, zv66, Value.cells, z66, hst]
 ·have hne : ∀ k, k ≠ n → (w.setRow n ((cs.toList.take (i * 15 + 0) ++ vs ++ cs.toList.drop (i * 15 + 0 + vs.length)).toArray)).heap[k]? = w.heap[k]? := fun k hk => setRow_other w n k _ hk
  refine ⟨h.os, h.tape, h.output, h.drawn, ?_, fun k hk hkn => (hne k hkn).trans (h.keep k hk hkn), h.lt, _, setRow_eq h1 _, ?_, ?_⟩
  ·rw [show (w.setRow n ((cs.toList.take (i * 15 + 0) ++ vs ++ cs.toList.drop (i * 15 + 0 + vs.length)).toArray)).heap.size = w.heap.size from by simp [World.setRow]]
   exact h.size
  ·simp only [List.length_take, List.size_toArray, List.length_append, List.length_drop, Array.length_toList, hl]
   omega
  ·intro j x hx q v hv
   have hq : q < 15 := (gO hv).1
   have hji : j < i := by have := (gO hx).1; simp at this; omega
   rw [List.getElem?_take_of_lt hji] at hx
   have hc := h3 j x hx q v hv
   rw [List.getElem?_toArray, List.append_assoc, List.getElem?_append_left (by simp; omega), List.getElem?_take_of_lt (by omega)]
   simpa using hc
set_option maxHeartbeats 1000000 in
set_option maxRecDepth 100000 in
theorem delete_call (w : World) (g c : Nat) (xs : List PB) (hH : Held w g xs w) (len : Nat) (hl : xs.length = len) (hlen : len ≤ 1000000) (hc : len ≤ c) (hr : xs.any (fun x => decide (x.lf.kind = 5)) = true) :
 Calls Tryz.prog 100 #[.slice (some ⟨g, 0, none⟩) len c, .func (.func 98) #[] #[]] w fun e w' => ∃ c' k : Nat, e = .returned (.slice (some ⟨g, 0, none⟩) k c') ∧ (xs.filter nring).length = k ∧ Held w g (xs.filter nring) w' := by
 have hP : Pr w 98 #[] (fun _ => True) (fun x => decide (x.lf.kind = 5)) := ⟨fun args w => by rfl, fun x w' _ _ => by simpa using isRing_call x w'⟩
 have HI := hiD (index_call w 98 #[] _ _ hP (some ⟨g, 0, none⟩) c xs w (Gr.refl w) (hH.boxRow (by omega)) (fun _ _ => trivial) len hl hlen)
 obtain ⟨i, hi⟩ : ∃ i, xs.findIdx? (fun x => decide (x.lf.kind = 5)) = some i := by
  cases h : xs.findIdx? (fun x => decide (x.lf.kind = 5)) with
  | some i => exact ⟨i, rfl⟩
  | none => rw [List.findIdx?_eq_none_iff] at h; obtain ⟨x, hx, hp⟩ := List.any_eq_true.1 hr; rw [h x hx] at hp; cases hp
 have hI : idxI (fun x => decide (x.lf.kind = 5)) xs = i := by unfold idxI; rw [hi]
 rw [hI] at HI
 obtain ⟨hil, hip, hib⟩ := List.findIdx?_eq_some_iff_getElem.1 hi
 have HX := hiD hl
 have HHD := hiD hH
 have hn1 : ((i : Int) == -1) = false := by simp
 have hw1 : IntKind.i64.wrap ((i : Int) + 1) = i + 1 := IntWalk.i64_in _ ⟨by omega, by omega⟩
 have hilt : i < len := by omega
 have HF0 : Hid ((xs.take (i + 1)).filter nring = xs.take i) := by
  show _ = _
  rw [List.take_add_one, gE hil, List.filter_append]
  have e1 : (xs.take i).filter nring = xs.take i := List.filter_eq_self.2 fun x hx => by
   obtain ⟨j, hj, rfl⟩ := List.getElem_of_mem hx
   have hj' : j < i := by simp at hj; omega
   have := hib j hj'
   rw [List.getElem_take]
   simpa [nring] using this
  have e2 : [xs[i]].filter nring = [] := by simpa [nring] using hip
  rw [e1]; simp [Option.toList, e2]
 clear hI hi hib hip hil hr hP hH hl
 go_enter Tryz.func100, Tryz.ntmps100
 go_wp2_with (go_at_call 147; refine HI.out.mono ?_; rintro e w1 ⟨rfl, hg1⟩)
 have H1 := HHD.out.gr hg1
 go_loopw [6, 5] (fun a b wr => ∃ (j q : Nat) (ys : List PB), a = .int .i64 j ∧ b = .int .i64 q ∧ q < j ∧ j ≤ len ∧ ys.length = len ∧ Hid (ys.take q = (xs.take j).filter nring) ∧ Hid (ys.drop j = xs.drop j) ∧ Held w g ys wr) (fun a _ _ => len - (intOf a).toNat)
 case atStart => exact ⟨i + 1, i, xs, by go_num, rfl, by omega, by omega, HX.out, HF0.out.symm, rfl, H1⟩
 case round =>
  obtain ⟨j, q, ys, rfl, rfl, hqj, hjl, hyl, HT, HD, HH⟩ := hrel
  have hn := HH.nlt
  by_cases hlt : j < len
  ·obtain ⟨x, hx⟩ : ∃ x, ys[j]? = some x := ⟨_, gE (by omega)⟩
   have hxx : xs[j]? = some x := by have := congrArg (·[0]?) HD.out; simpa [hx] using this.symm
   have l1 : rowV 15 wr g (j * 15) = some (pv x) := HH.load hx
   have hd : decide ((j : Int) < (len : Int)) = true := by simp; omega
   have hnn : (0 : Int) ≤ (j : Int) := by omega
   have hR := isRing_call x
   have HRR := hiD hR
   have HW := hiD HH
   have HS : Hid ((xs.take (j + 1)).filter nring = (xs.take j).filter nring ++ [x].filter nring) := by
    show _ = _
    rw [List.take_add_one, hxx, List.filter_append]; rfl
   have HD1 : Hid (ys.drop (j + 1) = xs.drop (j + 1)) := by
    show _ = _
    rw [← List.drop_drop, HD.out, List.drop_drop]
   clear hx hxx HH hR
   cases hpx : decide (x.lf.kind = 5)
   ·have e1 : [x].filter nring = [x] := by simp [nring, hpx]
    rw [e1] at HS
    clear e1
    go_wp2_with fail
    refine (HRR.out _).mono ?_
    rintro e w' ⟨rfl, hgw⟩
    have hb7 : rowV 15 w' wr.heap.size 0 = some (pv x) := rowV_mono hgw (by go_simp) rfl
    have hb8 := rowV_lt hb7
    have hb8' : wr.heap.size < w'.heap.size := hb8
    have H9 := hiD (HW.out.gr (((Gr.refl wr).alloc _).trans hgw))
    have hq9 : (q : Int) < (len : Int) := by omega
    have hq8 : (0 : Int) ≤ q := by omega
    have hq7 : q < ys.length := by omega
    have hw2 : IntKind.i64.wrap ((q : Int) + 1) = q + 1 := IntWalk.i64_in _ ⟨by omega, by omega⟩
    clear hgw
    go_wp2_with (refine wpList_st66 rfl _ _ rfl q x rfl rfl H9.out hq7 ?_; intro w3 hH3; have H3 := hiD hH3; clear hH3)
    go_roundw
    case rel =>
     refine ⟨j + 1, q + 1, ys.set q x, by go_num, by go_num, by omega, by omega, by simpa using hyl, ?_, ?_, H3.out⟩
     ·show _ = _
      rw [HS.out, ← HT.out, List.take_add_one, List.take_set_of_le (Nat.le_refl q), List.getElem?_set_self hq7]; rfl
     ·show _ = _
      rw [List.drop_set_of_lt (by omega)]; exact HD1.out
    case measure => simp [intOf]; omega
   ·have e1 : [x].filter nring = [] := by simp [nring, hpx]
    rw [e1, List.append_nil] at HS
    clear e1
    go_wp2_with fail
    refine (HRR.out _).mono ?_
    rintro e w' ⟨rfl, hgw⟩
    go_wp2_with fail
    go_roundw
    case rel => exact ⟨j + 1, q, ys, by go_num, rfl, by omega, by omega, hyl, HT.out.trans HS.out.symm, HD1.out, HW.out.gr (((Gr.refl wr).alloc _).trans hgw)⟩
    case measure => simp [intOf]; omega
  ·obtain rfl : j = len := by omega
   have hd : decide ((j : Int) < (j : Int)) = false := by simp
   obtain ⟨w2, hcl, hH2⟩ := HH.clear (i := q) (k := j - q) (by omega) (by omega)
   have H2 := hiD hH2
   have hq1 : (0 : Int) ≤ q := by omega
   have hq2 : (q : Int) ≤ j := by omega
   clear hH2
   have hq3 : q * 15 + 0 = q * 15 := rfl
   have hcl2 := hcl
   go_wp2
   go_ret
   refine ⟨c, q, rfl, ?_, ?_⟩
   ·have := congrArg List.length HT.out
    simp at this
    rw [List.take_of_length_le (by have := HX.out; omega)] at this
    omega
   ·have e : xs.filter nring = ys.take q := by rw [HT.out, List.take_of_length_le (by have := HX.out; omega)]
    rw [e]; exact H2.out
set_option maxHeartbeats 1000000 in
set_option maxRecDepth 100000 in
theorem clone2_call (A : Option Addr) (c : Nat) (xs : List PB) (w : World) (hr : BoxRow w A (xs.map raw)) (len : Nat) (hl : xs.length = len) (hlen : len ≤ 1000000) :
 Calls Tryz.prog 101 #[.slice A len c] w fun e w' => Gr w w' ∧ ∃ A' c', e = .returned (.slice A' len c') ∧ (xs ≠ [] → len ≤ c' ∧ ∃ g, A' = some ⟨g, 0, none⟩ ∧ w.heap.size ≤ g ∧ Held w' g xs w') := by
 have q25 : ∀ (w : World) (a : Option Addr) (n c n' c' : Nat), (binOp .eql 25 (.slice a n c) (.slice none n' c')).run Tryz.prog w = .ok (.bool a.isNone) w := fun w a n c n' c' => Lib.run_eql_slice_nil w _ _ a n c n' c' Tryz.underlying25
 have HR := hiD hr
 have HL := hiD hl
 clear hr hl
 cases A with
 | none =>
   exact tZ47
 | some a =>
   obtain ⟨i0, hi, hz0, hz1, hz2⟩ := info_parts info66
   go_enter Tryz.func101, Tryz.ntmps101
   go_wp2_with (at_builtin; refine wpList_app rfl _ _ 25 rfl w.heap.size 66 i0 _ 15 120 Tryz.underlying25 hi hz0 hz1 hz2 rfl (by decide) _ _ _ rfl (World.ownsRow_made w #[] 0 (Nat.le_refl _) (Nat.zero_le _) rfl) a len c (rcells xs) rfl ?qc1 ?qc2 ?qc3 ?qc4 ?qc5 ?qc6 ?_)
   case qc1 => rw [rcells_len, HL.out]
   case qc2 =>
    exact tZ50
   case qc3 => exact rcells_one xs
   case qc4 => unfold maxLen; omega
   case qc5 => omega
   case qc6 => simp
   intro v' w1 hown hgrow hdr hnil
   have hne : v' ≠ .slice none 0 0 := fun h => hnil h
   have hg : Gr w w1 := Gr.grown ((Gr.refl w).alloc _) hgrow (by intro k hk; simp [Value.ownBlock] at hk; omega) hdr
   have HO := hiD hown
   clear hown hgrow hdr hnil
   rcases HO.out.2 with ⟨h0, _⟩ | ⟨g, cap, cur, rfl, hb, hgc, hc, _, hs, ht⟩
   ·exact absurd h0 hne
   clear hgc hs ht
   go_wp2
   go_ret
   refine ⟨hg, some ⟨g, 0, none⟩, cap, rfl, fun hx => ?_⟩
   obtain ⟨h1, g', c', h2, h3, h4⟩ := Held.of_own HO.out hx
   obtain ⟨rfl⟩ : g = g' := by injection h2 with h2; injection h2 with h2; injection h2
   exact ⟨hc, g, rfl, h3, h4⟩
end Go.Proofs.OGW
