import Derived.Test.YtmejcmollpbcfaaGreatP44
set_option linter.all false
namespace Go.Proofs.OGW
open Go.RowKit Go.Sort OG Go.Shelf Go.PlainAid
attribute [local go_sem] sA fv sB sG sC Nat.zero_add
attribute [local go_sem ↓] ld66 ld51 st66 st51
theorem parts_le : ∀ (ps : List (List PB)), (∀ p ∈ ps, p ≠ []) → ps.length ≤ ps.flatten.length
 | [], _ => Nat.le_refl _
 | p :: r, h => by
   have h1 : p.length ≠ 0 := fun e => h p (by simp) (List.eq_nil_of_length_eq_zero e)
   have h2 := parts_le r (fun q hq => h q (by simp [hq]))
   rw [List.flatten_cons, List.length_append, List.length_cons]
   omega
set_option maxRecDepth 100000 in
set_option maxHeartbeats 16000000 in
theorem cut_div (OB B sb gb ab cb : Nat) (s : Rat) (hs1 : -2147483647 ≤ s.num) (hs2 : s.num ≤ 2147483647) (hs3 : s.den ≤ 1000000000) (f : Nat) (hCut : CutOk OB B sb gb ab cb s f) (W : World) (v : Value) (out : List Nd) (A : Option Addr) (len c : Nat) (xs : List PB) (d : Int) (hd : d + (f + 1 : Nat) = 5) (hd0 : 0 ≤ d)
 (hE : CEnv OB B sb gb ab cb s W) (hX : BoxO OB B W v out) (hB : B ≤ W.heap.size) (hr : BoxRow W A (xs.map raw)) (hg : ∀ x ∈ xs, good x = true) (hl : xs.length = len) (hlen : len ≤ 1000) (ho : out.length + cutN len ≤ 1000000)
 (hn1 : len ≠ 1) (hno : ∀ a b, xs = [a, b] → holdsP b a = false ∧ holdsP a b = false) :
 Calls Tryz.prog 94 #[.slice A len c, .int .i64 d, .pointer (some ⟨OB, 0, none⟩), .pointer (some ⟨gb, 0, none⟩), .pointer (some ⟨ab, 0, none⟩)] W (CutPost OB B W v out (cutN len) (DivR (CutR s f (d + 1)) s d xs)) := by
 have d4 : decide (4 < d) = false := by simp; omega
 have hd5 : d ≤ 4 := by omega
 have d1 : ((len : Int) == 1) = false := by simp; omega
 have hsp := sp_le hd0
 have hsp2 := sp_ge hd5
 have HSP := hiD (space_call d (by omega) (by omega))
 have HGAP := hiD (fun (W2 : World) (h : Gr W W2) => gap_call s (sp d) sb W2 (hE.gr h).sc (by
  have h1 : -(2147483647 * 20) ≤ s.num * sp d := by
   have := Int.mul_le_mul_of_nonneg_right (show -s.num ≤ 2147483647 by omega) (show 0 ≤ sp d by omega)
   have h3 : 2147483647 * sp d ≤ 2147483647 * 20 := Int.mul_le_mul_of_nonneg_left hsp (by decide)
   rw [Int.neg_mul] at this
   omega
  omega) (by
  have h1 : s.num * sp d ≤ 2147483647 * sp d := Int.mul_le_mul_of_nonneg_right hs2 (by omega)
  have h3 : 2147483647 * sp d ≤ 2147483647 * 20 := Int.mul_le_mul_of_nonneg_left hsp (by decide)
  omega) (by omega))
 have HSPL := hiD (fun (W2 : World) (b : Nat) (ac : Bool) (h : Gr W W2) (hf : FrC W2 b (s * (sp d : Int))) => split_call W2 A c xs ac 90 _ (gapIs s (sp d)) (ap_gap s (sp d) b W2 hf) (hr.mono fun _ _ _ => BoxAt.gr h) hg len hl (by omega))
 have HE := hiD hE
 have HX := hiD hX
 have HR := hiD hr
 have HGD := hiD hg
 have HL := hiD hl
 have HCUT := hiD hCut
 have eg1 := ent_of (f := 89) Tryz.func89 (by kernel_rfl) rfl
 have eg2 := ent_of (f := 91) Tryz.func91 (by kernel_rfl) rfl
 have step1 : len = 2 → ∃ a b, xs = [a, b] := fun h => list_two (by rw [hl, h])
 have HS1 := hiD step1
 have HNO := hiD hno
 clear hE hX hr hg hl hCut hno step1 hs1 hs2 hs3
 by_cases h2 : len = 2
 all_goals
  first
   | (
     obtain ⟨a, b, hab⟩ := HS1.out h2
     have hrow := HR.out
     rw [hab] at hrow
     obtain ⟨blk, off, rfl, hra, hrb⟩ := row2 hrow
     have h3 := holds_call b a (good_pl (HGD.out b (by rw [hab]; simp))) (good_pl (HGD.out a (by rw [hab]; simp)))
     have h4 := holds_call a b (good_pl (HGD.out a (by rw [hab]; simp))) (good_pl (HGD.out b (by rw [hab]; simp)))
     rw [show holdsB b a = false from (HNO.out a b hab).1] at h3
     rw [show holdsB a b = false from (HNO.out a b hab).2] at h4
     have H3 := hiD h3
     have H4 := hiD h4
     have e2 : ((len : Int) == 2) = true := by simp [h2]
     have z0 : 0 < len := by omega
     have z1 : 1 < len := by omega
     have z2 : (0 : Int) < (len : Int) := by omega
     have z3 : (1 : Int) < (len : Int) := by omega
     have HRA := hiD hra
     have HRB := hiD hrb
     have nb : blk < W.heap.size := lcc W _ (rowV_cell hra 0 _ rfl)
     clear hab hrow h3 h4 h2
     go_enter Tryz.func94, Tryz.ntmps94
     go_wp2
     refine wp_region_quiet_grown mixed (by kernel_rfl) ?_
     repeat (go_big_quiet_step ((go_at_call 96; exact H3.out.quiet)))
     refine wpQuiet_nil ?_
     rintro w' ⟨⟨nq, osq⟩, rfl⟩
     have hg0 : Gr W (Sort.grow (W.drewN nq) osq) := Gr.of_eq _ _
     generalize Sort.grow (W.drewN nq) osq = W0 at hg0 ⊢
     have hra := rowV_mono hg0 HRA.out rfl
     have hrb := rowV_mono hg0 HRB.out rfl
     have nb := lcc W0 _ (rowV_cell hra 0 _ rfl)
     have HG0 := hiD hg0
     clear hg0 nq osq
     go_wp2
     refine wp_region_quiet_grown mixed (by kernel_rfl) ?_
     repeat (go_big_quiet_step ((go_at_call 96; exact H4.out.quiet)))
     refine wpQuiet_nil ?_
     rintro w' ⟨⟨nq, osq⟩, rfl⟩
     have hg1 : Gr W (Sort.grow (W0.drewN nq) osq) := HG0.out.trans (Gr.of_eq _ _)
     generalize Sort.grow (W0.drewN nq) osq = W1 at hg1 ⊢
     have HG1 := hiD hg1
     clear hg1 nq osq hra hrb nb
     go_upto_region 12 with fail)
   | (
     have e2 : ((len : Int) == 2) = false := by simp; omega
     clear h2
     go_enter Tryz.func94, Tryz.ntmps94
     go_wp2
     refine wp_region_quiet_grown mixed (by kernel_rfl) ?_
     repeat (go_big_quiet_step (fail))
     refine wpQuiet_nil ?_
     rintro w' ⟨⟨nq, osq⟩, rfl⟩
     have hg0 : Gr W (Sort.grow (W.drewN nq) osq) := Gr.of_eq _ _
     generalize Sort.grow (W.drewN nq) osq = W0 at hg0 ⊢
     have HG0 := hiD hg0
     clear hg0 nq osq
     go_wp2
     refine wp_region_quiet_grown mixed (by kernel_rfl) ?_
     repeat (go_big_quiet_step (fail))
     refine wpQuiet_nil ?_
     rintro w' ⟨⟨nq, osq⟩, rfl⟩
     have hg1 : Gr W (Sort.grow (W0.drewN nq) osq) := HG0.out.trans (Gr.of_eq _ _)
     generalize Sort.grow (W0.drewN nq) osq = W1 at hg1 ⊢
     have HG1 := hiD hg1
     clear hg1 nq osq
     go_upto_region 12 with fail)
  have m0 : (W1.alloc (.cells #[.bool true, .bool false] 4)).cell? ⟨W1.heap.size, 0, none⟩ = some (.bool true) := by go_simp
  have m1 : (W1.alloc (.cells #[.bool true, .bool false] 4)).cell? ⟨W1.heap.size, 1, none⟩ = some (.bool false) := by go_simp
  have hg2 : Gr W (W1.alloc (.cells #[.bool true, .bool false] 4)) := HG1.out.alloc _
  obtain ⟨bb0, hbb0⟩ : ∃ bb0, bb0 = W1.heap.size := ⟨_, rfl⟩
  rw [← hbb0] at m0 m1 ⊢
  generalize W1.alloc (.cells #[.bool true, .bool false] 4) = W2 at m0 m1 hg2 ⊢
  have M0 := hiD m0
  have M1 := hiD m1
  have HG2 := hiD hg2
  clear m0 m1 hg2 hbb0 HG1
  go_loopw [79] (fun i wr => ∃ k : Nat, i = .int .i64 k ∧ k ≤ 2 ∧ Gr W2 wr ∧ Hid (Gr W wr) ∧ Hid (1 ≤ k → ∃ p, SplitR true (gapIs s (sp d)) xs p ∧ p.length = 1) ∧ Hid (2 ≤ k → ∃ p, SplitR false (gapIs s (sp d)) xs p ∧ p.length = 1)) (fun i _ => 2 - (intOf i).toNat)
  case atStart => exact ⟨0, rfl, by omega, Gr.refl _, HG2.out, fun h => by omega, fun h => by omega⟩
  case round =>
   obtain ⟨k, rfl, hk, hg, HGR, HA0, HA1⟩ := hrel
   have hk3 : k = 0 ∨ k = 1 ∨ k = 2 := by omega
   rcases hk3 with rfl | rfl | rfl
   ·have hbk : wr.cell? ⟨bb0, 0, none⟩ = some (.bool true) := hg.cell M0.out
    have nbk := lcc wr _ hbk
    have hcg := (HE.out.gr HGR.out).g
    have ngb := lcc wr _ hcg
    have HGW := hiD hg
    clear hg
    go_wp2_with fail
    refine free_grown [0, 1, 3] [2] [4, 5, 6] [7] (by kernel_rfl) (fun d _ _ _ _ h => by cases d <;> exact h) ?_
    simp only [List.filterMap_cons, List.filterMap_nil, List.getElem?_cons_succ, List.getElem?_cons_zero]
    repeat (refine wpPure_step (fun K hK => ?_); go_simp; refine hK _ ?_; clear hK K)
    refine wpPure_nil ?_
    refine wpTake_val rfl (.func (.func 89) #[] #[.pointer (some ⟨sb, 0, none⟩)]) (fun w' hg' => ?_) ?_
    ·have := hg'.cell hcg
     go_simp
    refine wpTake_nil ?_
    refine wpU_step rfl (fun K hK => ?_)
    go_simp
    refine (HSP.out wr.drew).mono ?_
    rintro e w2 ⟨rfl, hg2⟩
    have hw2 := (Gr.refl wr).drew.trans hg2
    refine hK.out _ _ hw2 ?_
    clear hK K hg2
    refine wpU_step rfl (fun K hK => ?_)
    go_simp
    refine (HGAP.out w2 (HGR.out.trans hw2)).mono ?_
    rintro e w3 ⟨bb, rfl, hg3, hb3, hfr⟩
    have hw3 := hw2.trans hg3
    have HG3 := hiD (HGR.out.trans hw3)
    refine hK.out _ _ hw3 ?_
    clear hK K hg3 hw2
    refine wpU_step rfl (fun K hK => ?_)
    go_simp
    refine (HSPL.out w3 bb true HG3.out hfr).mono ?_
    rintro e w4 ⟨hg4, A', c', ys, hpm, hst, he, hpt⟩
    obtain ⟨pn, hpn⟩ : ∃ n, n = (scan true (gapIs s (sp d)) ys).length := ⟨_, rfl⟩
    rw [← hpn] at he
    subst he
    have hw4 := hw3.trans hg4
    have HG4 := hiD (HGR.out.trans hw4)
    have HW4 := hiD (HGW.out.trans hw4)
    have HPM := hiD hpm
    have HST := hiD hst
    have HPT := hiD hpt
    have HPN := hiD hpn
    refine hK.out _ _ hw4 ?_
    clear hK K hg4 hpm hst hpt hpn hw3 hw4 hfr
    refine wpU_nil ?_
    go_upto_region 15 with fail
    have HSR := hiD (show SplitR true (gapIs s (sp d)) xs (scan true (gapIs s (sp d)) ys) from ⟨ys, HPM.out, HST.out, rfl⟩)
    clear hcg nbk hbk ngb
    by_cases hp1 : pn = 1
    ·have e1 : ((pn : Int) == 1) = true := by simp [hp1]
     go_wp2
     go_roundw
     case rel => exact ⟨1, rfl, by omega, HW4.out, HG4.out, fun _ => ⟨_, HSR.out, by rw [← HPN.out]; exact hp1⟩, fun h => by omega⟩
     case measure => simp [intOf]
    ·have e1 : ((pn : Int) == 1) = false := by simp; omega
     have HP1 := hiD hp1
     have hX4 := HX.out.gr HG4.out
     have hE4 := HE.out.gr HG4.out
     obtain ⟨hc4, hf4⟩ := cell_of_box' hX4.box
     have nOB := lcc w4 _ hc4
     have HX4 := hiD hX4
     have HE4 := hiD hE4
     have hN := allN_scan true (gapIs s (sp d)) ys (by rw [← HPN.out]; exact hp1)
     rw [HPM.out.length_eq, HL.out] at hN
     have HN := hiD hN
     have szW : W.heap.size ≤ w4.heap.size := HG4.out.b.size
     have HALL := hiD (fun (W6 : World) (v6 : Value) (hE6 : CEnv OB B sb gb ab cb s W6) (hX6 : BoxO OB B W6 v6 (out ++ [⟨bare 2, d⟩])) (hS6 : StepO OB w4 W6 v v6) (hB6 : B ≤ W6.heap.size) =>
      all_call OB B sb gb ab cb s f HCUT.out W6 v6 _ A' pn c' (scan true (gapIs s (sp d)) ys) (d + 1) (by omega) hE6 hX6 hB6
       (fun W2 v2 hs2 => HPT.out W2 (fun k h1 h2 => (hS6.trans hs2).keep k h2 (by have := (Array.getElem?_eq_some_iff.1 HX.out.box).1; have := HG3.out.b.size; omega) (fun e => by have := (HX.out.own.lt _ e.symm).2; have := HG3.out.b.size; omega)))
       (fun p hp x hx => HGD.out x (HPM.out.mem_iff.1 (by rw [← scan_flat true (gapIs s (sp d)) ys]; exact List.mem_flatten.2 ⟨p, hp, hx⟩)))
       HPN.out.symm
       (by have h5 := parts_le _ (scan_ne true (gapIs s (sp d)) ys); rw [scan_flat, HPM.out.length_eq, HL.out, ← HPN.out] at h5; omega)
       (fun p hp => by
         have h1 : p.length ≤ ys.length := by
          conv => rhs; rw [← scan_flat true (gapIs s (sp d)) ys]
          obtain ⟨l1, l2, e⟩ := List.append_of_mem hp
          rw [e]; simp; omega
         rw [HPM.out.length_eq, HL.out] at h1
         omega)
       (by rw [List.length_append, List.length_singleton]; omega))
     clear hX4 hE4 hN hp1
     go_wp2_with (first
      | (at_builtin; refine wpList_nds rfl _ _ rfl B v out rfl (HX4.out.gr gw).own _ 0 _ [⟨bare 2, d⟩] 1 rfl rfl (fun j u hu => (World.cell?_alloc_at _ _ _ _ (by go_simp)).trans (by simpa [ndc, bare] using hu)) (by omega) (by simp; omega) ?_; intro v5 w5 HO5 HS5; obtain ⟨g5, c5, hv5, _⟩ := HO5.out.form; subst hv5; obtain ⟨hbx, hX5, hS5⟩ := (HX4.out.gr gw).step HS5.out HO5.out; obtain ⟨hc5, hf5⟩ := cell_of_box' hbx; have HX6 := hiD hX5; have HS6 := hiD ((StepO.gr ((Gr.refl w4).alloc _) v).trans hS5); have hE6 := HE4.out.step HS6.out HX4.out.own.low; have hca := hE6.a; have HE6 := hiD hE6; have hBw5 : B ≤ w5.heap.size := Nat.le_trans (Nat.le_trans hB szW) (by have := HS6.out.size; rw [setCell_size] at this; exact this); clear hbx hX5 hS5 HO5 HS5 hE6)
      | (go_at_fn 91; refine (HALL.out _ _ HE6.out HX6.out HS6.out (by rw [setCell_size]; exact hBw5)).mono ?_; rintro e w7 ⟨r, v7, out7, hr5, rfl, hX7, hS7, hl7, hn7⟩; have HR5 := hiD hr5; have HX7 := hiD hX7; have HS7 := hiD hS7; have HN7 := hiD hn7; have HL7 := hiD hl7; clear hr5 hX7 hS7 hn7 hl7))
     go_ret
     have hr5 := HR5.out
     refine ⟨r.map (⟨bare 2, d⟩ :: ·), v7, out7, ⟨_, HSR.out, by rw [if_pos (by rw [← HPN.out]; exact HP1.out)]; exact ⟨r, hr5, rfl⟩⟩, by cases r <;> rfl, HX7.out, (StepO.gr HG4.out v).trans (HS6.out.trans HS7.out), ?_, ?_⟩
     ·have h1 := HN.out; have h2 := HL7.out; simp at h2; omega
     ·intro ns hns
      cases r with
      | none => cases hns
      | some q => cases hns; rw [HN7.out q rfl]; simp
   ·have hbk : wr.cell? ⟨bb0, 1, none⟩ = some (.bool false) := hg.cell M1.out
    have nbk := lcc wr _ hbk
    have hcg := (HE.out.gr HGR.out).g
    have ngb := lcc wr _ hcg
    have HGW := hiD hg
    clear hg
    go_wp2_with fail
    refine free_grown [0, 1, 3] [2] [4, 5, 6] [7] (by kernel_rfl) (fun d _ _ _ _ h => by cases d <;> exact h) ?_
    simp only [List.filterMap_cons, List.filterMap_nil, List.getElem?_cons_succ, List.getElem?_cons_zero]
    repeat (refine wpPure_step (fun K hK => ?_); go_simp; refine hK _ ?_; clear hK K)
    refine wpPure_nil ?_
    refine wpTake_val rfl (.func (.func 89) #[] #[.pointer (some ⟨sb, 0, none⟩)]) (fun w' hg' => ?_) ?_
    ·have := hg'.cell hcg
     go_simp
    refine wpTake_nil ?_
    refine wpU_step rfl (fun K hK => ?_)
    go_simp
    refine (HSP.out wr.drew).mono ?_
    rintro e w2 ⟨rfl, hg2⟩
    have hw2 := (Gr.refl wr).drew.trans hg2
    refine hK.out _ _ hw2 ?_
    clear hK K hg2
    refine wpU_step rfl (fun K hK => ?_)
    go_simp
    refine (HGAP.out w2 (HGR.out.trans hw2)).mono ?_
    rintro e w3 ⟨bb, rfl, hg3, hb3, hfr⟩
    have hw3 := hw2.trans hg3
    have HG3 := hiD (HGR.out.trans hw3)
    refine hK.out _ _ hw3 ?_
    clear hK K hg3 hw2
    refine wpU_step rfl (fun K hK => ?_)
    go_simp
    refine (HSPL.out w3 bb false HG3.out hfr).mono ?_
    rintro e w4 ⟨hg4, A', c', ys, hpm, hst, he, hpt⟩
    obtain ⟨pn, hpn⟩ : ∃ n, n = (scan false (gapIs s (sp d)) ys).length := ⟨_, rfl⟩
    rw [← hpn] at he
    subst he
    have hw4 := hw3.trans hg4
    have HG4 := hiD (HGR.out.trans hw4)
    have HW4 := hiD (HGW.out.trans hw4)
    have HPM := hiD hpm
    have HST := hiD hst
    have HPT := hiD hpt
    have HPN := hiD hpn
    refine hK.out _ _ hw4 ?_
    clear hK K hg4 hpm hst hpt hpn hw3 hw4 hfr
    refine wpU_nil ?_
    go_upto_region 15 with fail
    have HSR := hiD (show SplitR false (gapIs s (sp d)) xs (scan false (gapIs s (sp d)) ys) from ⟨ys, HPM.out, HST.out, rfl⟩)
    clear hcg nbk hbk ngb
    by_cases hp1 : pn = 1
    ·have e1 : ((pn : Int) == 1) = true := by simp [hp1]
     go_wp2
     go_roundw
     case rel => exact ⟨2, rfl, by omega, HW4.out, HG4.out, fun _ => HA0.out (by omega), fun _ => ⟨_, HSR.out, by rw [← HPN.out]; exact hp1⟩⟩
     case measure => simp [intOf]
    ·have e1 : ((pn : Int) == 1) = false := by simp; omega
     have HP1 := hiD hp1
     have hX4 := HX.out.gr HG4.out
     have hE4 := HE.out.gr HG4.out
     obtain ⟨hc4, hf4⟩ := cell_of_box' hX4.box
     have nOB := lcc w4 _ hc4
     have HX4 := hiD hX4
     have HE4 := hiD hE4
     have hN := allN_scan false (gapIs s (sp d)) ys (by rw [← HPN.out]; exact hp1)
     rw [HPM.out.length_eq, HL.out] at hN
     have HN := hiD hN
     have szW : W.heap.size ≤ w4.heap.size := HG4.out.b.size
     have HALL := hiD (fun (W6 : World) (v6 : Value) (hE6 : CEnv OB B sb gb ab cb s W6) (hX6 : BoxO OB B W6 v6 (out ++ [⟨bare 3, d⟩])) (hS6 : StepO OB w4 W6 v v6) (hB6 : B ≤ W6.heap.size) =>
      all_call OB B sb gb ab cb s f HCUT.out W6 v6 _ A' pn c' (scan false (gapIs s (sp d)) ys) (d + 1) (by omega) hE6 hX6 hB6
       (fun W2 v2 hs2 => HPT.out W2 (fun k h1 h2 => (hS6.trans hs2).keep k h2 (by have := (Array.getElem?_eq_some_iff.1 HX.out.box).1; have := HG3.out.b.size; omega) (fun e => by have := (HX.out.own.lt _ e.symm).2; have := HG3.out.b.size; omega)))
       (fun p hp x hx => HGD.out x (HPM.out.mem_iff.1 (by rw [← scan_flat false (gapIs s (sp d)) ys]; exact List.mem_flatten.2 ⟨p, hp, hx⟩)))
       HPN.out.symm
       (by have h5 := parts_le _ (scan_ne false (gapIs s (sp d)) ys); rw [scan_flat, HPM.out.length_eq, HL.out, ← HPN.out] at h5; omega)
       (fun p hp => by
         have h1 : p.length ≤ ys.length := by
          conv => rhs; rw [← scan_flat false (gapIs s (sp d)) ys]
          obtain ⟨l1, l2, e⟩ := List.append_of_mem hp
          rw [e]; simp; omega
         rw [HPM.out.length_eq, HL.out] at h1
         omega)
       (by rw [List.length_append, List.length_singleton]; omega))
     clear hX4 hE4 hN hp1
     go_wp2_with (first
      | (at_builtin; refine wpList_nds rfl _ _ rfl B v out rfl (HX4.out.gr gw).own _ 0 _ [⟨bare 3, d⟩] 1 rfl rfl (fun j u hu => (World.cell?_alloc_at _ _ _ _ (by go_simp)).trans (by simpa [ndc, bare] using hu)) (by omega) (by simp; omega) ?_; intro v5 w5 HO5 HS5; obtain ⟨g5, c5, hv5, _⟩ := HO5.out.form; subst hv5; obtain ⟨hbx, hX5, hS5⟩ := (HX4.out.gr gw).step HS5.out HO5.out; obtain ⟨hc5, hf5⟩ := cell_of_box' hbx; have HX6 := hiD hX5; have HS6 := hiD ((StepO.gr ((Gr.refl w4).alloc _) v).trans hS5); have hE6 := HE4.out.step HS6.out HX4.out.own.low; have hca := hE6.a; have HE6 := hiD hE6; have hBw5 : B ≤ w5.heap.size := Nat.le_trans (Nat.le_trans hB szW) (by have := HS6.out.size; rw [setCell_size] at this; exact this); clear hbx hX5 hS5 HO5 HS5 hE6)
      | (go_at_fn 91; refine (HALL.out _ _ HE6.out HX6.out HS6.out (by rw [setCell_size]; exact hBw5)).mono ?_; rintro e w7 ⟨r, v7, out7, hr5, rfl, hX7, hS7, hl7, hn7⟩; have HR5 := hiD hr5; have HX7 := hiD hX7; have HS7 := hiD hS7; have HN7 := hiD hn7; have HL7 := hiD hl7; clear hr5 hX7 hS7 hn7 hl7))
     go_ret
     have hr5 := HR5.out
     refine ⟨r.map (⟨bare 3, d⟩ :: ·), v7, out7, by
      obtain ⟨p0, hp0, hp01⟩ := HA0.out (by omega)
      exact ⟨p0, hp0, by rw [if_neg (by simpa using hp01)]; exact ⟨_, HSR.out, by rw [if_pos (by rw [← HPN.out]; exact HP1.out)]; exact ⟨r, hr5, rfl⟩⟩⟩, by cases r <;> rfl, HX7.out, (StepO.gr HG4.out v).trans (HS6.out.trans HS7.out), ?_, ?_⟩
     ·have h1 := HN.out; have h2 := HL7.out; simp at h2; omega
     ·intro ns hns
      cases r with
      | none => cases hns
      | some q => cases hns; rw [HN7.out q rfl]; simp
   ·go_wp2_with fail
    go_ret
    refine ⟨none, v, out, ?_, rfl, HX.out.gr HGR.out, StepO.gr HGR.out _, by omega, fun ns h => by cases h⟩
    obtain ⟨p, hp, hp1⟩ := HA0.out (by omega)
    obtain ⟨p', hp', hp1'⟩ := HA1.out (by omega)
    exact ⟨p, hp, by rw [if_neg (by simpa using hp1)]; exact ⟨p', hp', by rw [if_neg (by simpa using hp1')]⟩⟩
end Go.Proofs.OGW
