import Derived.Test.YtmejcmollpbcfaaGreatP06
set_option linter.all false
namespace Go.Proofs.OGW
open Go.RowKit Go.Sort OG Go.Shelf
attribute [local go_sem] sA fv sB sG Nat.zero_add
attribute [local go_sem ↓] ld66 ld51 st66 st51
theorem get_at {α : Type} {l : List α} (A : List α) (x : α) (B : List α) (i : Nat) (h : l = A ++ x :: B) (hi : A.length = i) : l[i]? = some x := by subst h hi; simp
theorem set_at {α : Type} {l : List α} (A : List α) (x y : α) (B : List α) (i : Nat) (h : l = A ++ x :: B) (hi : A.length = i) : l.set i y = A ++ y :: B := by subst h hi; simp
theorem Held.at {w0 : World} {n : Nat} {xs : List PB} {w : World} (h : Held w0 n xs w) (i : Nat) (x : PB) (A B : List PB) (e : xs = A ++ x :: B) (hi : A.length = i) : rowV 15 w n (i * 15) = some (pv x) := h.load (get_at A x B i e hi)
theorem half_mid (a b : Nat) (h : a + b ≤ 4000000000) : IntKind.u64.wrap ((a : Int) + (b : Nat)) = ((a + b : Nat) : Int) := by rw [IntKind.wrap_u64]; omega
theorem Srt.app {S : PB → Prop} {cf : PB → PB → Int} (hO : Ord S cf) {A B : List PB} (hS : ∀ y ∈ A ++ B, S y) (hA : Srt cf A) (hB : Srt cf B) (h : ∀ p q, A.getLast? = some p → B.head? = some q → 0 ≤ cf q p) : Srt cf (A ++ B) := by
 unfold Srt at *
 rw [List.pairwise_append]
 refine ⟨hA, hB, fun u hu v hv => ?_⟩
 rcases List.eq_nil_or_concat A with rfl | ⟨A, p, rfl⟩
 ·cases hu
 rw [List.concat_eq_append] at *
 cases B with
 | nil => cases hv
 | cons q B =>
   have hpq := h p q (by simp) rfl
   have hSp := hS p (by simp)
   have hSq := hS q (by simp)
   have h1 : 0 ≤ cf q u := by
    rcases List.mem_append.1 hu with hu' | hu'
    ·exact hO.trans u p q (hS u (by simp [hu'])) hSp hSq ((List.pairwise_append.1 hA).2.2 u hu' p (by simp)) hpq
    ·obtain rfl := List.mem_singleton.1 hu'
     exact hpq
   rcases List.mem_cons.1 hv with rfl | hv'
   ·exact h1
   ·exact hO.trans u q v (hS u (List.mem_append_left _ hu)) hSq (hS v (by simp [hv'])) h1 ((List.pairwise_cons.1 hB).1 v hv')
theorem srt_left {cf : PB → PB → Int} {A B : List PB} (h : Srt cf (A ++ B)) : Srt cf A := (List.pairwise_append.1 h).1
theorem srt_right {cf : PB → PB → Int} {A B : List PB} (h : Srt cf (A ++ B)) : Srt cf B := (List.pairwise_append.1 h).2.1
set_option maxHeartbeats 4000000 in
set_option maxRecDepth 100000 in
theorem sym1_call (w0 : World) (n c a b : Nat) (S : PB → Prop) (g : FuncId) (lb : Array Value) (cf : PB → PB → Int) (hC : Cmp w0 n S g lb cf) (hO : Ord S cf) (xs L V R : List PB) (u : PB) (W : World) (hH : Held w0 n xs W) (hxs : xs = L ++ (u :: V ++ R))
 (ha : L.length = a) (hb : a + 1 + V.length = b) (hSu : S u) (hS : ∀ x ∈ V, S x) (hV : Srt cf V) (len : Nat) (hln : xs.length = len) (hlen : len ≤ 1000000000) :
 Calls Tryz.prog 181 #[.slice (some ⟨n, 0, none⟩) len c, .int .i64 a, .int .i64 (a + 1 : Nat), .int .i64 b, .func (.func g) #[] lb] W fun e w' => e = .returned (.tuple #[]) ∧ ∃ T, T.Perm (u :: V) ∧ Srt cf T ∧ Held w0 n (L ++ (T ++ R)) w' := by
 have hl := congrArg List.length hxs
 simp only [List.length_append, List.length_cons] at hl
 rw [hln] at hl
 have b1 : b ≤ len := by omega
 have HX := hiD hxs
 have HL := hiD hl
 have HA := hiD ha
 have HB := hiD hb
 have HS := hiD hS
 have HV := hiD hV
 clear hxs hl hln ha hb hS hV
 have eg := hC.ent
 have m1 : IntKind.i64.wrap ((a : Int) + 1 - a) = 1 := by rw [show (a : Int) + 1 - a = 1 by omega]; rfl
 rw [show ((a + 1 : Nat) : Int) = (a : Int) + 1 from rfl]
 go_enter Tryz.func181, Tryz.ntmps181
 go_wp2
 go_loopw [10, 11] (fun i j wr => ∃ V1 Vm V2 : List PB, ∃ k : Nat, Hid (V = V1 ++ (Vm ++ V2)) ∧ i = .int .i64 k ∧ j = .int .i64 ((k : Int) + (Vm.length : Nat)) ∧ a + 1 + V1.length = k ∧ (∀ p, V1.getLast? = some p → cf p u < 0) ∧ (∀ p, V2.head? = some p → 0 ≤ cf p u) ∧ Held w0 n xs wr) (fun i j _ => (intOf j).toNat - (intOf i).toNat)
 case atStart =>
  refine ⟨[], V, [], a + 1, by simp [Hid], rfl, ?_, rfl, by simp, by simp, hH⟩
  have := HB.out
  congr 1; omega
 case round =>
  obtain ⟨V1, Vm, V2, k, HVV, rfl, rfl, hk, h1, h2, hHr⟩ := hrel
  have HK := hiD hk
  have H1 := hiD h1
  have H2 := hiD h2
  clear hk h1 h2
  have hvl := congrArg List.length HVV.out
  simp only [List.length_append] at hvl
  have HVL := hiD hvl
  have kb : k + Vm.length ≤ len := by have := HB.out; have := HK.out; omega
  clear hvl
  rcases Nat.eq_zero_or_pos Vm.length with h0 | h0
  ·obtain rfl : Vm = [] := List.eq_nil_of_length_eq_zero h0
   have e0 : V = V1 ++ V2 := by have := HVV.out; simpa using this
   have hH1 : Held w0 n (L ++ (u :: V1 ++ (V2 ++ R))) wr := by
    have := HX.out
    rw [e0] at this
    subst this
    simpa using hHr
   clear hHr
   have E0 := hiD e0
   clear e0
   have hd : decide ((k : Int) < (k : Int)) = false := by simp
   rw [show (k : Int) + (([] : List PB).length : Nat) = k by simp]
   have w1 : IntKind.i64.wrap ((k : Int) - 1) = (k : Int) - 1 := IntWalk.i64_in _ ⟨by have := HK.out; omega, by omega⟩
   go_wp2_with fail
   go_loopw [13] (fun i wr2 => ∃ Va Vb : List PB, i = .int .i64 (a + Va.length : Nat) ∧ Hid (V1 = Va ++ Vb) ∧ Held w0 n (L ++ (Va ++ (u :: (Vb ++ (V2 ++ R))))) wr2) (fun i _ => k - (intOf i).toNat)
   case atStart => exact ⟨[], V1, rfl, rfl, by simpa using hH1⟩
   case round =>
    obtain ⟨Va, Vb, rfl, HVa, hHr⟩ := hrel
    have hkl := congrArg List.length HVa.out
    simp only [List.length_append] at hkl
    have HKL := hiD hkl
    clear hkl
    rw [show ((a + Va.length : Nat) : Int) = (a : Int) + (Va.length : Nat) from rfl]
    cases Vb with
    | nil =>
      have hd2 : decide ((a : Int) + (Va.length : Nat) < (k : Int) - 1) = false := by have := HK.out; have := HKL.out; simp at *; omega
      go_wp2_with fail
      refine bodyPost_ret (results_none rfl _ _ _) rfl ?_
      obtain rfl : V1 = Va := by have := HVa.out; simpa using this
      have hv := HV.out
      rw [E0.out] at hv
      have hs : ∀ x ∈ u :: V, S x := fun x hx => by rcases List.mem_cons.1 hx with rfl | h; exact hSu; exact HS.out x h
      refine ⟨rfl, V1 ++ u :: V2, ?_, ?_, by simpa using hHr⟩
      ·rw [E0.out]; exact List.perm_middle
      ·have hs2 : ∀ x ∈ V1 ++ u :: V2, S x := fun x hx => hs x (by
        rw [E0.out]
        simp only [List.mem_append, List.mem_cons] at hx ⊢
        rcases hx with h | h | h
        ·exact .inr (.inl h)
        ·exact .inl h
        ·exact .inr (.inr h))
       refine Srt.app hO hs2 (srt_left hv) ?_ ?_
       ·refine Srt.app (A := [u]) hO (fun x hx => hs2 x (List.mem_append_right _ hx)) (by simp [Srt]) (srt_right hv) ?_
        intro p q hp hq
        obtain rfl : u = p := by simpa using hp
        exact H2.out q hq
       ·intro p q hp hq
        obtain rfl : u = q := by simpa using hq
        exact hO.anti _ _ (hs2 p (by have := List.mem_of_getLast? hp; simp [this])) hSu (H1.out p hp)
    | cons x Vb =>
      have hd2 : decide ((a : Int) + (Va.length : Nat) < (k : Int) - 1) = true := by have := HK.out; have := HKL.out; simp at *; omega
      have hl2 : a + Va.length + 1 < len := by have := HK.out; have := HKL.out; simp at *; omega
      have l1 := hHr.at (a + Va.length) u (L ++ Va) (x :: Vb ++ (V2 ++ R)) (by simp) (by have := HA.out; simp; omega)
      have l2 := hHr.at (a + Va.length + 1) x (L ++ Va ++ [u]) (Vb ++ (V2 ++ R)) (by simp) (by have := HA.out; simp; omega)
      have hn := hHr.nlt
      have w2 : IntKind.i64.wrap ((a : Int) + (Va.length : Nat) + 1) = (a : Int) + (Va.length : Nat) + 1 := IntWalk.i64_in _ ⟨by omega, by omega⟩
      have t1 : ((a : Int) + (Va.length : Nat) + 1).toNat = a + Va.length + 1 := by omega
      have t2 : ((a : Int) + (Va.length : Nat)).toNat = a + Va.length := by omega
      have z1 : (a : Int) + (Va.length : Nat) + 1 < len := by omega
      have z2 : (a : Int) + (Va.length : Nat) < len := by omega
      have z3 : (0 : Int) ≤ (a : Int) + (Va.length : Nat) + 1 := by omega
      have z4 : (0 : Int) ≤ (a : Int) + (Va.length : Nat) := by omega
      go_wp2_with fail
      refine ord_grown [0, 1, 2, 3, 4] [5, 6, 7, 8, 9, 10, 11, 12, 13, 14] [15, 16, 17] (by kernel_rfl) (fun d _ _ _ _ h => by cases d <;> exact h) ?_
      simp only [List.filterMap_cons, List.filterMap_nil, List.getElem?_cons_succ, List.getElem?_cons_zero]
      repeat (refine wpPure_step (fun K hK => ?_); go_simp; refine hK _ ?_; clear hK K)
      refine wpPure_nil ?_
      repeat (quiet_step (fail))
      refine wpQuiet_nil ?_
      rintro w' ⟨⟨nq, osq⟩, rfl⟩
      have hH4 := hHr.gr (Gr.of_eq nq osq)
      generalize Sort.grow (_ : World) osq = w3 at hH4 ⊢
      have e1 := set_at (L ++ Va) u x (x :: Vb ++ (V2 ++ R)) (a + Va.length) (l := L ++ (Va ++ (u :: (x :: Vb ++ (V2 ++ R))))) (by simp) (by have := HA.out; simp; omega)
      have e2 := set_at (L ++ Va ++ [x]) x u (Vb ++ (V2 ++ R)) (a + Va.length + 1) (l := L ++ Va ++ x :: (x :: Vb ++ (V2 ++ R))) (by simp) (by have := HA.out; simp; omega)
      have E1 := hiD e1
      have E2 := hiD e2
      clear e1 e2
      have g1 : a + Va.length < (L ++ (Va ++ (u :: (x :: Vb ++ (V2 ++ R))))).length := by have := HA.out; simp; omega
      have g2 : a + Va.length + 1 < (L ++ Va ++ x :: (x :: Vb ++ (V2 ++ R))).length := by have := HA.out; simp; omega
      refine wpList_st66 rfl _ _ rfl (a + Va.length) x rfl rfl hH4 g1 ?_
      intro w4 h4
      rw [E1.out] at h4
      refine wpList_pure rfl (.pointer (some ⟨n, (a + Va.length + 1) * 15, none⟩)) (fun w => by go_simp) ?_
      refine wpList_st66 rfl _ _ rfl (a + Va.length + 1) u rfl rfl h4 g2 ?_
      intro w5 h5
      rw [E2.out] at h5
      go_wp2
      go_roundw
      case rel => exact ⟨Va ++ [x], Vb, by go_num, by have := HVa.out; show _ = _; rw [this]; simp, by simpa using h5⟩
      case measure => have := HK.out; have := HKL.out; simp [intOf] at *; omega
  ·have hd : decide ((k : Int) < (k : Int) + (Vm.length : Nat)) = true := by simp; omega
   have u1 : IntKind.u64.wrap ((k : Int) + ((k : Int) + (Vm.length : Nat))) = (k : Int) + ((k : Int) + (Vm.length : Nat)) := by rw [IntKind.wrap_u64]; omega
   obtain ⟨A, y, B, hAB, hA⟩ : ∃ A y B, Vm = A ++ y :: B ∧ A.length = Vm.length / 2 := by
    have hlt : Vm.length / 2 < Vm.length := by omega
    exact ⟨Vm.take (Vm.length / 2), Vm[Vm.length / 2], Vm.drop (Vm.length / 2 + 1), by simp, by simp; omega⟩
   have hh : ((k : Int) + ((k : Int) + (Vm.length : Nat))) / 2 = (k : Int) + (A.length : Nat) := by omega
   have hl3 := congrArg List.length hAB
   simp only [List.length_append, List.length_cons] at hl3
   have HL3 := hiD hl3
   have HAB := hiD hAB
   have hl2 : k + A.length < len := by omega
   clear hAB hA hl3
   have hxy : xs = L ++ u :: V1 ++ A ++ y :: (B ++ V2 ++ R) := by
    have h1 := HX.out
    rw [HVV.out, HAB.out] at h1
    rw [h1]; simp
   have HXY := hiD hxy
   clear hxy
   have hSy : S y := HS.out y (by rw [HVV.out, HAB.out]; simp)
   have l1 := hHr.at (k + A.length) y (L ++ u :: V1 ++ A) (B ++ V2 ++ R) HXY.out (by have := HA.out; have := HK.out; simp; omega)
   have l2 := hHr.at a u L (V ++ R) HX.out HA.out
   have hc := fun m os => hC.at hHr hSy hSu m os
   have hn := hHr.nlt
   have t1 : ((k : Int) + (A.length : Nat)).toNat = k + A.length := by omega
   have z1 : (k : Int) + (A.length : Nat) < len := by omega
   have z3 : (0 : Int) ≤ (k : Int) + (A.length : Nat) := by omega
   have z5 : (a : Int) < len := by have := HK.out; omega
   have w2 : IntKind.i64.wrap ((k : Int) + (A.length : Nat) + 1) = (k : Int) + (A.length : Nat) + 1 := IntWalk.i64_in _ ⟨by omega, by omega⟩
   by_cases hcf : cf y u < 0
   ·have hdc : decide (cf y u < 0) = true := by simpa using hcf
    go_wp2_with fail
    refine wp_region_quiet_grown mixed (by kernel_rfl) ?_
    repeat (go_big_quiet_step ((go_at_fn g; exact hc _ _)))
    refine wpQuiet_nil ?_
    rintro w' ⟨⟨nq, osq⟩, rfl⟩
    have hH3 := hHr.gr (Gr.of_eq nq osq)
    generalize Sort.grow (_ : World) osq = w2 at hH3 ⊢
    go_wp2
    go_roundw
    case rel =>
     refine ⟨V1 ++ A ++ [y], B, V2, k + A.length + 1, ?_, rfl, ?_, ?_, ?_, H2.out, hH3⟩
     ·show _ = _
      rw [HVV.out, HAB.out]; simp
     ·have := HL3.out
      congr 1; omega
     ·have := HK.out; simp; omega
     ·intro p hp
      obtain rfl : y = p := by simpa using hp
      exact hcf
    case measure => have := HL3.out; simp [intOf]; omega
   ·have hdc : decide (cf y u < 0) = false := by simpa using hcf
    go_wp2_with fail
    refine wp_region_quiet_grown mixed (by kernel_rfl) ?_
    repeat (go_big_quiet_step ((go_at_fn g; exact hc _ _)))
    refine wpQuiet_nil ?_
    rintro w' ⟨⟨nq, osq⟩, rfl⟩
    have hH3 := hHr.gr (Gr.of_eq nq osq)
    generalize Sort.grow (_ : World) osq = w2 at hH3 ⊢
    go_wp2
    go_roundw
    case rel =>
     refine ⟨V1, A, y :: B ++ V2, k, ?_, rfl, rfl, HK.out, H1.out, ?_, hH3⟩
     ·show _ = _
      rw [HVV.out, HAB.out]; simp
     ·intro p hp
      obtain rfl : y = p := by simpa using hp
      omega
    case measure => have := HL3.out; simp [intOf]; omega
set_option maxHeartbeats 4000000 in
set_option maxRecDepth 100000 in
theorem sym2_call (w0 : World) (n c a m : Nat) (S : PB → Prop) (g : FuncId) (lb : Array Value) (cf : PB → PB → Int) (hC : Cmp w0 n S g lb cf) (hO : Ord S cf) (xs L U R : List PB) (v : PB) (W : World) (hH : Held w0 n xs W) (hxs : xs = L ++ (U ++ v :: R))
 (ha : L.length = a) (hm : a + U.length = m) (h2 : 2 ≤ U.length) (hSv : S v) (hS : ∀ x ∈ U, S x) (hU : Srt cf U) (len : Nat) (hln : xs.length = len) (hlen : len ≤ 1000000000) :
 Calls Tryz.prog 181 #[.slice (some ⟨n, 0, none⟩) len c, .int .i64 a, .int .i64 m, .int .i64 (m + 1 : Nat), .func (.func g) #[] lb] W fun e w' => e = .returned (.tuple #[]) ∧ ∃ T, T.Perm (U ++ [v]) ∧ Srt cf T ∧ Held w0 n (L ++ (T ++ R)) w' := by
 have hl := congrArg List.length hxs
 simp only [List.length_append, List.length_cons] at hl
 rw [hln] at hl
 have b1 : m + 1 ≤ len := by omega
 have b2 : a + 2 ≤ m := by omega
 have HX := hiD hxs
 have HL := hiD hl
 have HA := hiD ha
 have HM := hiD hm
 have HS := hiD hS
 have HU := hiD hU
 clear hxs hl hln ha hm hS hU h2
 have eg := hC.ent
 have m1 : IntKind.i64.wrap ((m : Int) - a) = (m : Int) - a := IntWalk.i64_in _ ⟨by omega, by omega⟩
 have m2 : ((m : Int) - a == 1) = false := by simp; omega
 have m3 : IntKind.i64.wrap ((m : Int) + 1 - m) = 1 := by rw [show (m : Int) + 1 - m = 1 by omega]; rfl
 rw [show ((m + 1 : Nat) : Int) = (m : Int) + 1 from rfl]
 go_enter Tryz.func181, Tryz.ntmps181
 go_wp2
 go_loopw [14, 15] (fun i j wr => ∃ U1 Um U2 : List PB, ∃ k : Nat, Hid (U = U1 ++ (Um ++ U2)) ∧ i = .int .i64 k ∧ j = .int .i64 ((k : Int) + (Um.length : Nat)) ∧ a + U1.length = k ∧ (∀ p, U1.getLast? = some p → 0 ≤ cf v p) ∧ (∀ p, U2.head? = some p → cf v p < 0) ∧ Held w0 n xs wr) (fun i j _ => (intOf j).toNat - (intOf i).toNat)
 case atStart =>
  refine ⟨[], U, [], a, by simp [Hid], rfl, ?_, rfl, by simp, by simp, hH⟩
  have := HM.out
  congr 1; omega
 case round =>
  obtain ⟨U1, Um, U2, k, HUU, rfl, rfl, hk, h1, h2, hHr⟩ := hrel
  have HK := hiD hk
  have H1 := hiD h1
  have H2 := hiD h2
  clear hk h1 h2
  have hvl := congrArg List.length HUU.out
  simp only [List.length_append] at hvl
  have HVL := hiD hvl
  have kb : k + Um.length ≤ m := by have := HM.out; have := HK.out; omega
  have ka : a ≤ k := by have := HK.out; omega
  clear hvl
  rcases Nat.eq_zero_or_pos Um.length with h0 | h0
  ·obtain rfl : Um = [] := List.eq_nil_of_length_eq_zero h0
   have e0 : U = U1 ++ U2 := by have := HUU.out; simpa using this
   have hH1 : Held w0 n (L ++ (U1 ++ (U2 ++ (v :: R)))) wr := by
    have := HX.out
    rw [e0] at this
    subst this
    simpa using hHr
   clear hHr
   have E0 := hiD e0
   clear e0
   rw [show (k : Int) + (([] : List PB).length : Nat) = k by simp]
   have hd : decide ((k : Int) < (k : Int)) = false := by simp
   go_wp2_with fail
   go_loopw [17] (fun i wr2 => ∃ Ua Ub : List PB, i = .int .i64 (k + Ua.length : Nat) ∧ Hid (U2 = Ua ++ Ub) ∧ Held w0 n (L ++ (U1 ++ (Ua ++ (v :: (Ub ++ R))))) wr2) (fun i _ => (intOf i).toNat - k)
   case atStart =>
    refine ⟨U2, [], ?_, by simp [Hid], by simpa using hH1⟩
    have := HM.out
    have := HK.out
    have := HVL.out
    congr 1; simp at *; omega
   case round =>
    obtain ⟨Ua, Ub, rfl, HVa, hHr⟩ := hrel
    have hkl := congrArg List.length HVa.out
    simp only [List.length_append] at hkl
    have HKL := hiD hkl
    clear hkl
    rcases List.eq_nil_or_concat Ua with rfl | ⟨Ua, x, rfl⟩
    ·rw [show ((k + ([] : List PB).length : Nat) : Int) = (k : Int) by simp]
     have hd2 : decide ((k : Int) < (k : Int)) = false := by simp
     go_wp2_with fail
     refine bodyPost_ret (results_none rfl _ _ _) rfl ?_
     obtain rfl : U2 = Ub := by have := HVa.out; simpa using this
     have hv := HU.out
     rw [E0.out] at hv
     have hs : ∀ x ∈ U1 ++ v :: U2, S x := fun x hx => by
      simp only [List.mem_append, List.mem_cons] at hx
      rcases hx with h | rfl | h
      ·exact HS.out x (by rw [E0.out]; simp [h])
      ·exact hSv
      ·exact HS.out x (by rw [E0.out]; simp [h])
     refine ⟨rfl, U1 ++ v :: U2, ?_, ?_, by simpa using hHr⟩
     ·rw [E0.out]
      simp only [List.append_assoc]
      exact List.Perm.append_left _ (List.perm_append_comm (l₁ := [v]))
     ·refine Srt.app hO hs (srt_left hv) ?_ ?_
      ·refine Srt.app (A := [v]) hO (fun x hx => hs x (List.mem_append_right _ hx)) (by simp [Srt]) (srt_right hv) ?_
       intro p q hp hq
       obtain rfl : v = p := by simpa using hp
       exact hO.anti _ _ hSv (hs q (by have := List.mem_of_mem_head? (Option.mem_def.2 hq); simp [this])) (H2.out q hq)
      ·intro p q hp hq
       obtain rfl : v = q := by simpa using hq
       exact H1.out p hp
    ·rw [List.concat_eq_append] at *
     rw [show ((k + (Ua ++ [x]).length : Nat) : Int) = (k : Int) + (Ua.length : Nat) + 1 by simp; omega]
     have hd2 : decide ((k : Int) < (k : Int) + (Ua.length : Nat) + 1) = true := by simp; omega
     have hl2 : k + Ua.length + 1 < len := by have := HK.out; have := HKL.out; have := HVL.out; have := HM.out; simp at *; omega
     have l1 := hHr.at (k + Ua.length) x (L ++ U1 ++ Ua) (v :: (Ub ++ R)) (by simp) (by have := HA.out; have := HK.out; simp; omega)
     have l2 := hHr.at (k + Ua.length + 1) v (L ++ U1 ++ Ua ++ [x]) (Ub ++ R) (by simp) (by have := HA.out; have := HK.out; simp; omega)
     have hn := hHr.nlt
     have w2 : IntKind.i64.wrap ((k : Int) + (Ua.length : Nat) + 1 - 1) = (k : Int) + (Ua.length : Nat) := by rw [show (k : Int) + (Ua.length : Nat) + 1 - 1 = (k : Int) + (Ua.length : Nat) by omega]; exact IntWalk.i64_in _ ⟨by omega, by omega⟩
     have w2' : IntKind.i64.wrap ((k : Int) + (Ua.length : Nat)) = (k : Int) + (Ua.length : Nat) := IntWalk.i64_in _ ⟨by omega, by omega⟩
     have t1 : ((k : Int) + (Ua.length : Nat) + 1).toNat = k + Ua.length + 1 := by omega
     have t2 : ((k : Int) + (Ua.length : Nat)).toNat = k + Ua.length := by omega
     have z1 : (k : Int) + (Ua.length : Nat) + 1 < len := by omega
     have z2 : (k : Int) + (Ua.length : Nat) < len := by omega
     have z3 : (0 : Int) ≤ (k : Int) + (Ua.length : Nat) + 1 := by omega
     have z4 : (0 : Int) ≤ (k : Int) + (Ua.length : Nat) := by omega
     go_wp2_with fail
     refine ord_grown [0, 1, 2, 3, 4] [5, 6, 7, 8, 9, 10, 11, 12, 13, 14] [15, 16, 17] (by kernel_rfl) (fun d _ _ _ _ h => by cases d <;> exact h) ?_
     simp only [List.filterMap_cons, List.filterMap_nil, List.getElem?_cons_succ, List.getElem?_cons_zero]
     repeat (refine wpPure_step (fun K hK => ?_); go_simp; refine hK _ ?_; clear hK K)
     refine wpPure_nil ?_
     repeat (quiet_step (fail))
     refine wpQuiet_nil ?_
     rintro w' ⟨⟨nq, osq⟩, rfl⟩
     have hH4 := hHr.gr (Gr.of_eq nq osq)
     generalize Sort.grow (_ : World) osq = w3 at hH4 ⊢
     have e1 := set_at (L ++ U1 ++ Ua ++ [x]) v x (Ub ++ R) (k + Ua.length + 1) (l := L ++ (U1 ++ (Ua ++ [x] ++ (v :: (Ub ++ R))))) (by simp) (by have := HA.out; have := HK.out; simp; omega)
     have e2 := set_at (L ++ U1 ++ Ua) x v (x :: (Ub ++ R)) (k + Ua.length) (l := L ++ U1 ++ Ua ++ [x] ++ x :: (Ub ++ R)) (by simp) (by have := HA.out; have := HK.out; simp; omega)
     have E1 := hiD e1
     have E2 := hiD e2
     clear e1 e2
     have g1 : k + Ua.length + 1 < (L ++ (U1 ++ (Ua ++ [x] ++ (v :: (Ub ++ R))))).length := by have := HA.out; have := HK.out; simp; omega
     have g2 : k + Ua.length < (L ++ U1 ++ Ua ++ [x] ++ x :: (Ub ++ R)).length := by have := HA.out; have := HK.out; simp; omega
     refine wpList_st66 rfl _ _ rfl (k + Ua.length + 1) x rfl rfl hH4 g1 ?_
     intro w4 h4
     rw [E1.out] at h4
     refine wpList_pure rfl (.pointer (some ⟨n, (k + Ua.length) * 15, none⟩)) (fun w => by go_simp) ?_
     refine wpList_st66 rfl _ _ rfl (k + Ua.length) v rfl rfl h4 g2 ?_
     intro w5 h5
     rw [E2.out] at h5
     go_wp2
     go_roundw
     case rel => exact ⟨Ua, x :: Ub, by go_num, by have := HVa.out; show _ = _; rw [this]; simp, by simpa using h5⟩
     case measure => simp [intOf] at *; omega
  ·have hd : decide ((k : Int) < (k : Int) + (Um.length : Nat)) = true := by simp; omega
   have u1 : IntKind.u64.wrap ((k : Int) + ((k : Int) + (Um.length : Nat))) = (k : Int) + ((k : Int) + (Um.length : Nat)) := by rw [IntKind.wrap_u64]; omega
   obtain ⟨A, y, B, hAB, hA⟩ : ∃ A y B, Um = A ++ y :: B ∧ A.length = Um.length / 2 := by
    have hlt : Um.length / 2 < Um.length := by omega
    exact ⟨Um.take (Um.length / 2), Um[Um.length / 2], Um.drop (Um.length / 2 + 1), by simp, by simp; omega⟩
   have hh : ((k : Int) + ((k : Int) + (Um.length : Nat))) / 2 = (k : Int) + (A.length : Nat) := by omega
   have hl3 := congrArg List.length hAB
   simp only [List.length_append, List.length_cons] at hl3
   have HL3 := hiD hl3
   have HAB := hiD hAB
   have hl2 : k + A.length < m := by omega
   clear hAB hA hl3
   have hxy : xs = L ++ U1 ++ A ++ y :: (B ++ U2 ++ v :: R) := by
    have h1 := HX.out
    rw [HUU.out, HAB.out] at h1
    rw [h1]; simp
   have HXY := hiD hxy
   clear hxy
   have hSy : S y := HS.out y (by rw [HUU.out, HAB.out]; simp)
   have l1 := hHr.at (k + A.length) y (L ++ U1 ++ A) (B ++ U2 ++ v :: R) HXY.out (by have := HA.out; have := HK.out; simp; omega)
   have l2 := hHr.at m v (L ++ U) R (by have := HX.out; rw [this]; simp) (by have := HA.out; have := HM.out; simp; omega)
   have hc := fun m os => hC.at hHr hSv hSy m os
   have hn := hHr.nlt
   have t1 : ((k : Int) + (A.length : Nat)).toNat = k + A.length := by omega
   have z1 : (k : Int) + (A.length : Nat) < len := by omega
   have z3 : (0 : Int) ≤ (k : Int) + (A.length : Nat) := by omega
   have z5 : (m : Int) < len := by omega
   have w2 : IntKind.i64.wrap ((k : Int) + (A.length : Nat) + 1) = (k : Int) + (A.length : Nat) + 1 := IntWalk.i64_in _ ⟨by omega, by omega⟩
   by_cases hcf : cf v y < 0
   ·have hdc : decide (cf v y < 0) = true := by simpa using hcf
    go_wp2_with fail
    refine wp_region_quiet_grown mixed (by kernel_rfl) ?_
    repeat (go_big_quiet_step ((go_at_fn g; exact hc _ _)))
    refine wpQuiet_nil ?_
    rintro w' ⟨⟨nq, osq⟩, rfl⟩
    have hH3 := hHr.gr (Gr.of_eq nq osq)
    generalize Sort.grow (_ : World) osq = w2 at hH3 ⊢
    go_wp2
    go_roundw
    case rel =>
     refine ⟨U1, A, y :: B ++ U2, k, ?_, rfl, rfl, HK.out, H1.out, ?_, hH3⟩
     ·show _ = _
      rw [HUU.out, HAB.out]; simp
     ·intro p hp
      obtain rfl : y = p := by simpa using hp
      exact hcf
    case measure => have := HL3.out; simp [intOf]; omega
   ·have hdc : decide (cf v y < 0) = false := by simpa using hcf
    go_wp2_with fail
    refine wp_region_quiet_grown mixed (by kernel_rfl) ?_
    repeat (go_big_quiet_step ((go_at_fn g; exact hc _ _)))
    refine wpQuiet_nil ?_
    rintro w' ⟨⟨nq, osq⟩, rfl⟩
    have hH3 := hHr.gr (Gr.of_eq nq osq)
    generalize Sort.grow (_ : World) osq = w2 at hH3 ⊢
    go_wp2
    go_roundw
    case rel =>
     refine ⟨U1 ++ A ++ [y], B, U2, k + A.length + 1, ?_, rfl, ?_, ?_, ?_, H2.out, hH3⟩
     ·show _ = _
      rw [HUU.out, HAB.out]; simp
     ·have := HL3.out
      congr 1; omega
     ·have := HK.out; simp; omega
     ·intro p hp
      obtain rfl : y = p := by simpa using hp
      omega
    case measure => have := HL3.out; simp [intOf]; omega
end Go.Proofs.OGW
