import Derived.Test.YtmejcmollpbcfaaGreatP05
set_option linter.all false
namespace Go.Proofs.OGW
open Go.RowKit Go.Sort OG Go.Shelf
attribute [local go_sem] sA fv sB sG Nat.zero_add
attribute [local go_sem ↓] ld66 ld51 st66 st51
structure Ord (S : PB → Prop) (cf : PB → PB → Int) : Prop where
 trans : ∀ x y z, S x → S y → S z → 0 ≤ cf y x → 0 ≤ cf z y → 0 ≤ cf z x
 anti : ∀ x y, S x → S y → cf x y < 0 → 0 ≤ cf y x
def Srt (cf : PB → PB → Int) (l : List PB) : Prop := l.Pairwise fun x y => 0 ≤ cf y x
theorem Srt.insert {S : PB → Prop} {cf : PB → PB → Int} (hO : Ord S cf) {D1 D2 : List PB} {x : PB} (hS : ∀ y ∈ D1 ++ x :: D2, S y) (h : Srt cf (D1 ++ D2)) (h1 : ∀ y ∈ D2, cf x y < 0) (h2 : ∀ p, D1.getLast? = some p → 0 ≤ cf x p) : Srt cf (D1 ++ x :: D2) := by
 unfold Srt at *
 rw [List.pairwise_append] at h ⊢
 obtain ⟨a, b, c⟩ := h
 refine ⟨a, List.pairwise_cons.2 ⟨fun y hy => hO.anti _ _ (hS x (by simp)) (hS y (by simp [hy])) (h1 y hy), b⟩, fun u hu v hv => ?_⟩
 rcases List.mem_cons.1 hv with rfl | hv
 ·
  rcases List.eq_nil_or_concat D1 with rfl | ⟨D, p, rfl⟩
  ·cases hu
  ·have hp := h2 p (by simp)
   rw [List.concat_eq_append] at *
   rcases List.mem_append.1 hu with hu | hu
   ·have hup := (List.pairwise_append.1 a).2.2 u hu p (by simp)
    exact hO.trans u p v (hS u (by simp [hu])) (hS p (by simp)) (hS v (by simp)) hup hp
   ·obtain rfl := List.mem_singleton.1 hu
    exact hp
 ·exact c u hu v hv
theorem perm_mid (D1 D2 E : List PB) (x : PB) : (D1 ++ x :: D2 ++ E).Perm (D1 ++ D2 ++ x :: E) := by
 simp only [List.append_assoc, List.cons_append]
 exact List.Perm.append_left D1 List.perm_middle.symm
set_option maxHeartbeats 4000000 in
set_option maxRecDepth 100000 in
theorem ins_call (w0 : World) (n c a b : Nat) (S : PB → Prop) (g : FuncId) (lb : Array Value) (cf : PB → PB → Int) (hC : Cmp w0 n S g lb cf) (hO : Ord S cf) (xs L M R : List PB) (W : World) (hH : Held w0 n xs W) (hxs : xs = L ++ (M ++ R))
 (ha : L.length = a) (hb : a + M.length = b) (hS : ∀ x ∈ M, S x) (hM : M ≠ []) (len : Nat) (hln : xs.length = len) (hlen : len ≤ 1000000000) :
 Calls Tryz.prog 180 #[.slice (some ⟨n, 0, none⟩) len c, .int .i64 a, .int .i64 b, .func (.func g) #[] lb] W fun e w' => e = .returned (.tuple #[]) ∧ ∃ M', M'.Perm M ∧ Srt cf M' ∧ Held w0 n (L ++ (M' ++ R)) w' := by
 have hM0 : 0 < M.length := List.length_pos_iff.2 hM
 have hl := congrArg List.length hxs
 simp only [List.length_append] at hl
 rw [hln] at hl
 have b1 : b ≤ len := by omega
 have b2 : a < b := by omega
 have HX := hiD hxs
 have HL := hiD hl
 have HA := hiD ha
 have HB := hiD hb
 have HS := hiD hS
 clear hxs hl hln ha hb hS
 have eg := hC.ent
 go_enter Tryz.func180, Tryz.ntmps180
 go_wp2
 go_loopw [8] (fun i wr => ∃ D E : List PB, i = .int .i64 (a + D.length : Nat) ∧ 0 < D.length ∧ D.length ≤ M.length ∧ (D ++ E).Perm M ∧ Srt cf D ∧ Held w0 n (L ++ (D ++ (E ++ R))) wr) (fun i _ => b - (intOf i).toNat)
 case atStart =>
  obtain ⟨x, M, rfl⟩ : ∃ x r, M = x :: r := by cases M with | nil => exact absurd rfl hM | cons x r => exact ⟨x, r, rfl⟩
  exact ⟨[x], M, by simp, by simp, by simp, by simp, by simp [Srt], by have := HX.out; subst this; simpa using hH⟩
 case round =>
  obtain ⟨D, E, rfl, hD0, hDM, hP, hSrt, hHr⟩ := hrel
  have hpl := hP.length_eq
  simp only [List.length_append] at hpl
  have HPL := hiD hpl
  have HP := hiD hP
  have HSR := hiD hSrt
  clear hpl hP hSrt
  by_cases hlt : a + D.length < b
  ·have hdl : decide ((a : Int) + (D.length : Nat) < b) = true := by simp; omega
   rw [show ((a + D.length : Nat) : Int) = (a : Int) + (D.length : Nat) from rfl]
   obtain ⟨x, E, rfl⟩ : ∃ x r, E = x :: r := by cases E with | nil => have := HPL.out; have := HB.out; simp at *; omega | cons x r => exact ⟨x, r, rfl⟩
   go_wp2
   go_loopw [9] (fun j wr2 => ∃ D1 D2 : List PB, j = .int .i64 (a + D1.length : Nat) ∧ D1.length ≤ D.length ∧ Hid (D1 ++ D2 = D) ∧ (∀ y ∈ D2, cf x y < 0) ∧ Held w0 n (L ++ (D1 ++ (x :: D2 ++ (E ++ R)))) wr2) (fun j _ => (intOf j).toNat)
   case atStart => exact ⟨D, [], rfl, Nat.le_refl _, by simp [Hid], by simp, by simpa using hHr⟩
   case round =>
    obtain ⟨D1, D2, rfl, hl1, HD, hx2, hHr2⟩ := hrel
    have HX2 := hiD hx2
    clear hx2
    have hSx : ∀ y ∈ D1 ++ x :: D2, S y := fun y hy => HS.out y (HP.out.mem_iff.1 (by
     have h1 := HD.out
     rw [← h1]
     simp only [List.mem_append, List.mem_cons] at hy ⊢
     rcases hy with h | h | h
     ·exact .inl (.inl h)
     ·exact .inr (.inl h)
     ·exact .inl (.inr h)))
    have HSX := hiD hSx
    clear hSx
    have fin : (∀ p, D1.getLast? = some p → 0 ≤ cf x p) → ∃ D' E', (a + D.length + 1 : Nat) = a + D'.length ∧ 0 < D'.length ∧ D'.length ≤ M.length ∧ (D' ++ E').Perm M ∧ Srt cf D' ∧ L ++ (D1 ++ (x :: D2 ++ (E ++ R))) = L ++ (D' ++ (E' ++ R)) := by
     intro hp
     have h1 := HD.out
     have h2 := HP.out
     have h3 := HPL.out
     have h4 := HB.out
     have hDl := congrArg List.length h1
     simp only [List.length_append] at hDl
     refine ⟨D1 ++ x :: D2, E, by simp; omega, by simp; omega, by simp; omega, ?_, Srt.insert hO HSX.out (by rw [h1]; exact HSR.out) HX2.out hp, by simp⟩
     refine List.Perm.trans ?_ h2
     rw [← h1]
     exact perm_mid D1 D2 E x
    have FIN := hiD fin
    clear fin
    have hn := hHr2.nlt
    have bd : a + D1.length < len := by omega
    rcases List.eq_nil_or_concat D1 with rfl | ⟨D3, p, rfl⟩
    ·have hd : decide ((a : Int) < ((a + ([] : List PB).length : Nat) : Int)) = false := by simp
     go_wp2_with fail
     refine wp_region_quiet_grown mixed (by kernel_rfl) ?_
     repeat (go_big_quiet_step (fail))
     refine wpQuiet_nil ?_
     rintro w' ⟨⟨nq, osq⟩, rfl⟩
     go_wp2
     go_roundw
     case rel =>
      obtain ⟨D', E', e1, e2, e3, e4, e5, e6⟩ := FIN.out (by simp)
      exact ⟨D', E', by rw [← e1]; go_num, e2, e3, e4, e5, by rw [← e6]; exact hHr2.gr gw⟩
     case measure => simp [intOf]; omega
    ·rw [List.concat_eq_append] at *
     have e0 : ((a + (D3 ++ [p]).length : Nat) : Int) = (a : Int) + (D3.length : Nat) + 1 := by simp; omega
     rw [e0]
     have hl2 : a + D3.length + 1 < len := by simp at bd; omega
     have l1 : rowV 15 wr n ((a + D3.length + 1) * 15) = some (pv x) := hHr2.load (by
      have := HA.out
      rw [← List.append_assoc, List.getElem?_append_right (by simp; omega)]
      simp [show a + D3.length + 1 - (L.length + (D3.length + 1)) = 0 by omega])
     have l2 : rowV 15 wr n ((a + D3.length) * 15) = some (pv p) := hHr2.load (by
      have := HA.out
      have e : L ++ (D3 ++ [p] ++ (x :: D2 ++ (E ++ R))) = L ++ D3 ++ (p :: (x :: D2 ++ (E ++ R))) := by simp
      rw [e, List.getElem?_append_right (by simp; omega)]
      simp [show a + D3.length - (L.length + D3.length) = 0 by omega])
     have hd : decide ((a : Int) < (a : Int) + (D3.length : Nat) + 1) = true := by simp; omega
     have hSx := HSX.out x (by simp)
     have hSp := HSX.out p (by simp)
     have hc := fun m os => hC.at hHr2 hSx hSp m os
     have w1 : IntKind.i64.wrap ((a : Int) + (D3.length : Nat) + 1 - 1) = (a : Int) + (D3.length : Nat) := by rw [show (a : Int) + (D3.length : Nat) + 1 - 1 = (a : Int) + (D3.length : Nat) by omega]; exact IntWalk.i64_in _ ⟨by omega, by omega⟩
     have t1 : ((a : Int) + (D3.length : Nat) + 1).toNat = a + D3.length + 1 := by omega
     have t2 : ((a : Int) + (D3.length : Nat)).toNat = a + D3.length := by omega
     have z1 : (a : Int) + (D3.length : Nat) + 1 < len := by omega
     have z2 : (a : Int) + (D3.length : Nat) < len := by omega
     have z3 : (0 : Int) ≤ (a : Int) + (D3.length : Nat) + 1 := by omega
     have z4 : (0 : Int) ≤ (a : Int) + (D3.length : Nat) := by omega
     by_cases hcf : cf x p < 0
     ·have hdc : decide (cf x p < 0) = true := by simpa using hcf
      go_wp2_with fail
      refine wp_region_quiet_grown mixed (by kernel_rfl) ?_
      repeat (go_big_quiet_step ((go_at_fn g; exact hc _ _)))
      refine wpQuiet_nil ?_
      rintro w' ⟨⟨nq, osq⟩, rfl⟩
      have hH3 := hHr2.gr (Gr.of_eq nq osq)
      have l1' := hH3.load (i := a + D3.length + 1) (x := x) (by
       have := HA.out
       rw [← List.append_assoc, List.getElem?_append_right (by simp; omega)]
       simp [show a + D3.length + 1 - (L.length + (D3.length + 1)) = 0 by omega])
      have l2' := hH3.load (i := a + D3.length) (x := p) (by
       have := HA.out
       have e : L ++ (D3 ++ [p] ++ (x :: D2 ++ (E ++ R))) = L ++ D3 ++ (p :: (x :: D2 ++ (E ++ R))) := by simp
       rw [e, List.getElem?_append_right (by simp; omega)]
       simp [show a + D3.length - (L.length + D3.length) = 0 by omega])
      clear l1 l2 hc hn
      have hn := hH3.nlt
      generalize Sort.grow (wr.drewN nq) osq = w2 at hH3 l1' l2' hn ⊢
      go_wp2_with fail
      refine ord_grown [0, 1, 2, 3, 4] [5, 6, 7, 8, 9, 10, 11, 12, 13, 14] [15, 16, 17] (by kernel_rfl) (fun d _ _ _ _ h => by cases d <;> exact h) ?_
      simp only [List.filterMap_cons, List.filterMap_nil, List.getElem?_cons_succ, List.getElem?_cons_zero]
      repeat (refine wpPure_step (fun K hK => ?_); go_simp; refine hK _ ?_; clear hK K)
      refine wpPure_nil ?_
      have w2' : IntKind.i64.wrap ((a : Int) + (D3.length : Nat)) = (a : Int) + (D3.length : Nat) := IntWalk.i64_in _ ⟨by omega, by omega⟩
      repeat (quiet_step (fail))
      refine wpQuiet_nil ?_
      rintro w' ⟨⟨nq, osq⟩, rfl⟩
      have hH4 := hH3.gr (Gr.of_eq nq osq)
      generalize Sort.grow (w2.drewN nq) osq = w3 at hH4 ⊢
      have e1 : (L ++ (D3 ++ [p] ++ (x :: D2 ++ (E ++ R)))).set (a + D3.length + 1) p = L ++ (D3 ++ [p] ++ (p :: D2 ++ (E ++ R))) := by
       have := HA.out
       rw [← List.append_assoc, List.set_append_right _ _ (by simp; omega)]
       simp [show a + D3.length + 1 - (L.length + (D3.length + 1)) = 0 by omega]
      have e2 : (L ++ (D3 ++ [p] ++ (p :: D2 ++ (E ++ R)))).set (a + D3.length) x = L ++ (D3 ++ (x :: (p :: D2) ++ (E ++ R))) := by
       have := HA.out
       have e : L ++ (D3 ++ [p] ++ (p :: D2 ++ (E ++ R))) = L ++ D3 ++ (p :: (p :: D2 ++ (E ++ R))) := by simp
       rw [e, List.set_append_right _ _ (by simp; omega)]
       simp [show a + D3.length - (L.length + D3.length) = 0 by omega]
      have E1 := hiD e1
      have E2 := hiD e2
      clear e1 e2
      have g1 : a + D3.length + 1 < (L ++ (D3 ++ [p] ++ (x :: D2 ++ (E ++ R)))).length := by have := HA.out; simp; omega
      have g2 : a + D3.length < (L ++ (D3 ++ [p] ++ (p :: D2 ++ (E ++ R)))).length := by have := HA.out; simp; omega
      refine wpList_st66 rfl _ _ rfl (a + D3.length + 1) p rfl rfl hH4 g1 ?_
      intro w4 h4
      rw [E1.out] at h4
      refine wpList_pure rfl (.pointer (some ⟨n, (a + D3.length) * 15, none⟩)) (fun w => by go_simp) ?_
      refine wpList_st66 rfl _ _ rfl (a + D3.length) x rfl rfl h4 g2 ?_
      intro w5 h5
      rw [E2.out] at h5
      go_wp2
      go_roundw
      case rel =>
       refine ⟨D3, p :: D2, by go_num, by simp at hl1; omega, by have := HD.out; show _ = _; rw [← this]; simp, ?_, by simpa using h5⟩
       intro y hy
       rcases List.mem_cons.1 hy with rfl | hy
       ·exact hcf
       ·exact HX2.out y hy
      case measure => simp [intOf]; omega
     ·have hdc : decide (cf x p < 0) = false := by simpa using hcf
      go_wp2_with fail
      refine wp_region_quiet_grown mixed (by kernel_rfl) ?_
      repeat (go_big_quiet_step ((go_at_fn g; exact hc _ _)))
      refine wpQuiet_nil ?_
      rintro w' ⟨⟨nq, osq⟩, rfl⟩
      go_wp2
      go_roundw
      case rel =>
       obtain ⟨D', E', e1, e2, e3, e4, e5, e6⟩ := FIN.out (by simp; omega)
       exact ⟨D', E', by rw [← e1]; go_num, e2, e3, e4, e5, by rw [← e6]; exact hHr2.gr gw⟩
      case measure => simp [intOf]; omega
  ·go_wp2
   go_end0
   obtain rfl : E = [] := List.eq_nil_of_length_eq_zero (by have := HPL.out; have := HB.out; omega)
   exact ⟨rfl, D, by simpa using HP.out, HSR.out, by simpa using hHr⟩
end Go.Proofs.OGW
