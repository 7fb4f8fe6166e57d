import Derived.Test.YtmejcmollpbcfaaGreatP08
set_option linter.all false
namespace Go.Proofs.OGW
open Go.RowKit Go.Sort OG Go.Shelf
attribute [local go_sem] sA fv sB sG Nat.zero_add
attribute [local go_sem ↓] ld66 ld51 st66 st51
inductive Blk (cf : PB → PB → Int) (bs : Nat) : List PB → Prop
 | short (l : List PB) : l.length ≤ bs → Srt cf l → Blk cf bs l
 | cons (A B : List PB) : A.length = bs → Srt cf A → Blk cf bs B → Blk cf bs (A ++ B)
inductive Blk0 (cf : PB → PB → Int) (bs : Nat) : List PB → Prop
 | nil : Blk0 cf bs []
 | snoc (D A : List PB) : Blk0 cf bs D → A.length = bs → Srt cf A → Blk0 cf bs (D ++ A)
theorem srt_nil {cf : PB → PB → Int} : Srt cf [] := List.Pairwise.nil
theorem Blk0.app {cf : PB → PB → Int} {bs : Nat} {D : List PB} (h : Blk0 cf bs D) : ∀ {E : List PB}, Blk cf bs E → Blk cf bs (D ++ E) := by
 induction h with
 | nil => intro E h; exact h
 | snoc D A _ h1 h2 ih => intro E h; rw [List.append_assoc]; exact ih (.cons A E h1 h2 h)
theorem Blk.le {cf : PB → PB → Int} {bs : Nat} {E : List PB} (h : Blk cf bs E) (hl : E.length ≤ bs) : Srt cf E := by
 cases h with
 | short _ _ h => exact h
 | cons A B h1 h2 h3 =>
   obtain rfl : B = [] := List.eq_nil_of_length_eq_zero (by simp at hl; omega)
   simpa using h2
theorem Blk.gt {cf : PB → PB → Int} {bs : Nat} {E : List PB} (h : Blk cf bs E) (hl : bs < E.length) : ∃ A B, E = A ++ B ∧ A.length = bs ∧ Srt cf A ∧ Blk cf bs B := by
 cases h with
 | short _ h _ => omega
 | cons A B h1 h2 h3 => exact ⟨A, B, rfl, h1, h2, h3⟩
theorem Blk.two {cf : PB → PB → Int} {bs : Nat} {E : List PB} (hb : 0 < bs) (h : Blk cf bs E) (hl : 2 * bs ≤ E.length) : ∃ A B E', E = A ++ (B ++ E') ∧ A.length = bs ∧ B.length = bs ∧ Srt cf A ∧ Srt cf B ∧ Blk cf bs E' := by
 obtain ⟨A, E1, rfl, h1, h2, h3⟩ := h.gt (by omega)
 simp only [List.length_append] at hl
 rcases Nat.lt_or_ge bs E1.length with h4 | h4
 ·obtain ⟨B, E', rfl, h5, h6, h7⟩ := h3.gt h4
  exact ⟨A, B, E', rfl, h1, h5, h2, h6, h7⟩
 ·exact ⟨A, E1, [], by simp, h1, by omega, h2, h3.le h4, .short [] (by simp) srt_nil⟩
set_option maxHeartbeats 1000000 in
set_option maxRecDepth 100000 in
theorem ins0_call (n c a len : Nat) (fv : Value) (W : World) (hlen : a ≤ 1000000000) :
 Calls Tryz.prog 180 #[.slice (some ⟨n, 0, none⟩) len c, .int .i64 a, .int .i64 a, fv] W fun e w' => e = .returned (.tuple #[]) ∧ w' = W := by
 have hd : decide ((a : Int) + 1 < (a : Int)) = false := by simp; omega
 have w1 : IntKind.i64.wrap ((a : Int) + 1) = (a : Int) + 1 := IntWalk.i64_in _ ⟨by omega, by omega⟩
 go_enter Tryz.func180, Tryz.ntmps180
 go_wp2
 go_loopw [8] (fun i wr => i = .int .i64 ((a : Int) + 1) ∧ wr = W) (fun i _ => 0)
 case atStart => exact ⟨rfl, rfl⟩
 case round =>
  obtain ⟨rfl, rfl⟩ := hrel
  go_wp2
  go_end0
  exact ⟨rfl, rfl⟩
set_option maxHeartbeats 4000000 in
set_option maxRecDepth 100000 in
theorem stable_call (w0 : World) (n c : Nat) (S : PB → Prop) (g : FuncId) (lb : Array Value) (cf : PB → PB → Int) (hC : Cmp w0 n S g lb cf) (hO : Ord S cf) (xs : List PB) (W : World) (hH : Held w0 n xs W) (hS : ∀ x ∈ xs, S x) (len : Nat) (hln : xs.length = len) (hlen : len ≤ 1000000) :
 Calls Tryz.prog 157 #[.slice (some ⟨n, 0, none⟩) len c, .int .i64 len, .func (.func g) #[] lb] W fun e w' => e = .returned (.tuple #[]) ∧ ∃ ys, ys.Perm xs ∧ Srt cf ys ∧ Held w0 n ys w' := by
 have HL := hiD hln
 have HS := hiD hS
 clear hln hS
 have eg := hC.ent
 go_enter Tryz.func157, Tryz.ntmps157
 go_wp2
 go_loopw [7, 8] (fun i j wr => ∃ D E : List PB, i = .int .i64 (D.length : Nat) ∧ j = .int .i64 ((D.length : Nat) + 20) ∧ Hid ((D ++ E).Perm xs) ∧ Blk0 cf 20 D ∧ Held w0 n (D ++ E) wr) (fun i _ _ => len - (intOf i).toNat)
 case atStart => exact ⟨[], xs, rfl, rfl, List.Perm.refl _, .nil, hH⟩
 case round =>
  obtain ⟨D, E, rfl, rfl, HP, hB, hHr⟩ := hrel
  have hle := HP.out.length_eq
  rw [HL.out, List.length_append] at hle
  have HLE := hiD hle
  have dl : D.length ≤ len := by omega
  clear hle
  by_cases hlt : D.length + 20 ≤ len
  ·obtain ⟨A, E, rfl, hA⟩ : ∃ A E', E = A ++ E' ∧ A.length = 20 := ⟨E.take 20, E.drop 20, by simp, by have := HLE.out; simp; omega⟩
   have hd : decide (((D.length : Nat) : Int) + 20 ≤ (len : Int)) = true := by simp; omega
   have hi := ins_call w0 n c D.length (D.length + 20) S g lb cf hC hO _ D A E wr hHr rfl rfl (by omega) (fun x hx => HS.out x (HP.out.mem_iff.1 (by simp [hx]))) (by intro h; rw [h] at hA; simp at hA) len (by have := HLE.out; simp at this ⊢; omega) (by omega)
   have HI := hiD hi
   have HA := hiD hA
   clear hi hA
   go_wp2_with fail
   refine HI.out.mono ?_
   rintro e w' ⟨rfl, M', h1, h2, h3⟩
   have w2 : IntKind.i64.wrap (((D.length : Nat) : Int) + 20 + 20) = ((D.length : Nat) : Int) + 20 + 20 := IntWalk.i64_in _ ⟨by omega, by omega⟩
   go_wp2
   go_roundw
   case rel =>
    have hM := h1.length_eq
    rw [HA.out] at hM
    refine ⟨D ++ M', E, ?_, ?_, ?_, .snoc D M' hB hM h2, by simpa using h3⟩
    ·simp [hM]
    ·simp [hM]
    ·show _
     refine List.Perm.trans ?_ HP.out
     rw [List.append_assoc]
     exact List.Perm.append_left _ (List.Perm.append_right _ h1)
   case measure => simp [intOf]; omega
  ·have hd : decide (((D.length : Nat) : Int) + 20 ≤ (len : Int)) = false := by simp; omega
   have hEl : E.length < 20 := by have := HLE.out; omega
   have hi : Calls Tryz.prog 180 #[.slice (some ⟨n, 0, none⟩) len c, .int .i64 (D.length : Nat), .int .i64 len, .func (.func g) #[] lb] wr fun e w' => e = .returned (.tuple #[]) ∧ ∃ ys, Hid (ys.Perm xs) ∧ Hid (Blk cf 20 ys) ∧ Held w0 n ys w' := by
    cases E with
    | nil =>
      have : D.length = len := by have := HLE.out; simp at this; omega
      rw [this]
      refine (ins0_call n c len len _ wr (by omega)).mono ?_
      rintro e w' ⟨rfl, rfl⟩
      exact ⟨rfl, D ++ [], HP, hB.app (.short [] (by simp) srt_nil), hHr⟩
    | cons x E =>
      refine (ins_call w0 n c D.length len S g lb cf hC hO _ D (x :: E) [] wr hHr (by simp) rfl (by have := HLE.out; omega) (fun y hx => HS.out y (HP.out.mem_iff.1 (List.mem_append_right _ hx))) (by simp) len (by have := HLE.out; simp at this ⊢; omega) (by omega)).mono ?_
      rintro e w' ⟨rfl, M', h1, h2, h3⟩
      exact ⟨rfl, D ++ M', (List.Perm.append_left _ h1).trans HP.out, hB.app (.short M' (by have := h1.length_eq; omega) h2), by simpa using h3⟩
   have HI := hiD hi
   clear hi hB hHr
   go_wp2_with fail
   refine HI.out.mono ?_
   rintro e w' ⟨rfl, ys, HY, HBK, hHy⟩
   clear HI HP HLE
   go_wp2
   go_loopw [6] (fun i wr => ∃ (bs : Nat) (ys : List PB), i = .int .i64 bs ∧ 20 ≤ bs ∧ bs ≤ 2 * len + 20 ∧ Hid (ys.Perm xs) ∧ Hid (Blk cf bs ys) ∧ Held w0 n ys wr) (fun i _ => len - (intOf i).toNat)
   case atStart => exact ⟨20, ys, rfl, by omega, by omega, HY, HBK, hHy⟩
   case round =>
    obtain ⟨bs, ys, rfl, s1, s2, HY, HBK, hHr⟩ := hrel
    have hyl : ys.length = len := by rw [HY.out.length_eq, HL.out]
    have HYL := hiD hyl
    clear hyl
    by_cases hbs : bs < len
    ·have hd2 : decide ((bs : Int) < (len : Int)) = true := by simp; omega
     have w3 : IntKind.i64.wrap (2 * (bs : Int)) = 2 * (bs : Int) := IntWalk.i64_in _ ⟨by omega, by omega⟩
     have w4 : IntKind.i64.wrap ((bs : Int) * 2) = (bs : Int) * 2 := IntWalk.i64_in _ ⟨by omega, by omega⟩
     go_wp2_with fail
     go_loopw [7, 8] (fun i j wr => ∃ D E : List PB, i = .int .i64 (D.length : Nat) ∧ j = .int .i64 ((D.length : Nat) + 2 * (bs : Int)) ∧ Hid ((D ++ E).Perm xs) ∧ Hid (Blk0 cf (2 * bs) D) ∧ Hid (Blk cf bs E) ∧ Held w0 n (D ++ E) wr) (fun i _ _ => len - (intOf i).toNat)
     case atStart => exact ⟨[], ys, rfl, by simp, HY, Blk0.nil, HBK, hHr⟩
     case round =>
      obtain ⟨D, E, rfl, rfl, HP, HB, HE, hHr⟩ := hrel
      have hle := HP.out.length_eq
      rw [HL.out, List.length_append] at hle
      have HLE := hiD hle
      have dl : D.length ≤ len := by omega
      clear hle
      have w5 : IntKind.i64.wrap (((D.length : Nat) : Int) + (bs : Int)) = ((D.length : Nat) : Int) + (bs : Int) := IntWalk.i64_in _ ⟨by omega, by omega⟩
      by_cases hlt : D.length + 2 * bs ≤ len
      ·obtain ⟨A, B, E', hEE, hA, hB', hsA, hsB, hE'⟩ := HE.out.two (by omega) (by have := HLE.out; omega)
       have hd : decide (((D.length : Nat) : Int) + 2 * (bs : Int) ≤ (len : Int)) = true := by simp; omega
       have hi := sym_call w0 n c S g lb cf hC hO len (by omega) (2 * bs) D A B E' D.length (D.length + bs) (D.length + 2 * bs) wr (by rw [← hEE]; exact hHr) (by rw [← hEE]; have := HLE.out; simp; omega) rfl (by omega) (by omega) (by omega) (by omega) (by omega) (fun x hx => HS.out x (HP.out.mem_iff.1 (by rw [hEE]; simp only [List.mem_append] at hx ⊢; rcases hx with h | h <;> simp [h]))) hsA hsB
       rw [show ((D.length + bs : Nat) : Int) = ((D.length : Nat) : Int) + (bs : Int) by omega, show ((D.length + 2 * bs : Nat) : Int) = ((D.length : Nat) : Int) + 2 * (bs : Int) by omega] at hi
       have HI := hiD hi
       have HEE := hiD hEE
       have HA := hiD hA
       have HBB := hiD hB'
       have HE' := hiD hE'
       clear hi hEE hA hB' hsA hsB hE'
       have w6 : IntKind.i64.wrap (((D.length : Nat) : Int) + 2 * (bs : Int) + 2 * (bs : Int)) = ((D.length : Nat) : Int) + 2 * (bs : Int) + 2 * (bs : Int) := IntWalk.i64_in _ ⟨by omega, by omega⟩
       go_wp2_with fail
       refine HI.out.mono ?_
       rintro e w' ⟨rfl, T, h1, h2, h3⟩
       go_wp2
       go_roundw
       case rel =>
        have hM := h1.length_eq
        simp only [List.length_append] at hM
        rw [HA.out, HBB.out] at hM
        refine ⟨D ++ T, E', ?_, ?_, ?_, Blk0.snoc D T HB.out (by omega) h2, HE', by simpa using h3⟩
        ·congr 1; simp [hM]; omega
        ·congr 1; simp [hM]; omega
        ·show _
         refine List.Perm.trans ?_ HP.out
         rw [HEE.out, List.append_assoc]
         refine List.Perm.append_left _ ?_
         rw [← List.append_assoc]
         exact List.Perm.append_right _ h1
       case measure => simp [intOf]; omega
      ·have hd : decide (((D.length : Nat) : Int) + 2 * (bs : Int) ≤ (len : Int)) = false := by simp; omega
       by_cases hlt2 : D.length + bs < len
       ·obtain ⟨A, B, hEE, hA, hsA, hB'⟩ := HE.out.gt (by have := HLE.out; omega)
        have hBl : B.length < bs := by have := HLE.out; rw [hEE] at this; simp at this; omega
        have hBp : 0 < B.length := by have := HLE.out; rw [hEE] at this; simp at this; omega
        have hsB := hB'.le (by omega)
        have hd3 : decide (((D.length : Nat) : Int) + (bs : Int) < (len : Int)) = true := by simp; omega
        have hi := sym_call w0 n c S g lb cf hC hO len (by omega) (2 * bs) D A B [] D.length (D.length + bs) len wr (by rw [List.append_nil, ← hEE]; exact hHr) (by rw [List.append_nil, ← hEE]; have := HLE.out; simp; omega) rfl (by omega) (by have := HLE.out; rw [hEE] at this; simp at this; omega) (by omega) (by omega) (by omega) (fun x hx => HS.out x (HP.out.mem_iff.1 (by rw [hEE]; simp only [List.mem_append] at hx ⊢; rcases hx with h | h <;> simp [h]))) hsA hsB
        rw [show ((D.length + bs : Nat) : Int) = ((D.length : Nat) : Int) + (bs : Int) by omega] at hi
        have HI := hiD hi
        have HEE := hiD hEE
        have HA := hiD hA
        clear hi hEE hA hsA hsB hB'
        go_wp2_with fail
        refine HI.out.mono ?_
        rintro e w' ⟨rfl, T, h1, h2, h3⟩
        go_wp2
        go_roundw
        case rel =>
         have hM := h1.length_eq
         simp only [List.length_append] at hM
         rw [HA.out] at hM
         refine ⟨bs * 2, D ++ T, by simp, by omega, by omega, ?_, ?_, by simpa using h3⟩
         ·show _
          refine List.Perm.trans ?_ HP.out
          rw [HEE.out]
          exact List.Perm.append_left _ h1
         ·show _
          rw [Nat.mul_comm]
          exact HB.out.app (.short T (by omega) h2)
        case measure => simp [intOf]; omega
       ·have hd3 : decide (((D.length : Nat) : Int) + (bs : Int) < (len : Int)) = false := by simp; omega
        go_wp2_with fail
        go_roundw
        case rel =>
         refine ⟨bs * 2, D ++ E, by simp, by omega, by omega, HP, ?_, hHr⟩
         show _
         rw [Nat.mul_comm]
         exact HB.out.app (.short E (by have := HLE.out; omega) (HE.out.le (by have := HLE.out; omega)))
        case measure => simp [intOf]; omega
    ·have hd2 : decide ((bs : Int) < (len : Int)) = false := by simp; omega
     go_wp2_with fail
     go_end0
     exact ⟨rfl, ys, HY.out, HBK.out.le (by have := HYL.out; omega), hHr⟩
set_option maxHeartbeats 1000000 in
set_option maxRecDepth 100000 in
theorem sortStable_call (w0 : World) (n c : Nat) (S : PB → Prop) (g : FuncId) (lb : Array Value) (cf : PB → PB → Int) (hC : Cmp w0 n S g lb cf) (hO : Ord S cf) (xs : List PB) (W : World) (hH : Held w0 n xs W) (hS : ∀ x ∈ xs, S x) (len : Nat) (hln : xs.length = len) (hlen : len ≤ 1000000) :
 Calls Tryz.prog 110 #[.slice (some ⟨n, 0, none⟩) len c, .func (.func g) #[] lb] W fun e w' => e = .returned (.tuple #[]) ∧ ∃ ys, ys.Perm xs ∧ Srt cf ys ∧ Held w0 n ys w' := by
 have HS := hiD (stable_call w0 n c S g lb cf hC hO xs W hH hS len hln hlen)
 clear hS hln
 go_enter Tryz.func110, Tryz.ntmps110
 go_wp2_with fail
 refine HS.out.mono ?_
 rintro e w' ⟨rfl, h⟩
 go_wp2
 go_end0
 exact ⟨rfl, h⟩
end Go.Proofs.OGW
