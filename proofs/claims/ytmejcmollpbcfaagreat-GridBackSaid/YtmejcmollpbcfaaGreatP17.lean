import Derived.Test.YtmejcmollpbcfaaGreatP13
import Derived.Test.YtmejcmollpbcfaaGreatP16
set_option linter.all false
namespace Go.Proofs.OGW
open Go.RowKit Go.Sort OG Go.Shelf Go.PlainAid
attribute [local go_sem] sA fv sB sG sC Nat.zero_add
attribute [local go_sem ↓] ld66 ld51 st66 st51
def sizeP (most : Int) (l : List Sg) (sign turn : Int) : Int × Int × Int :=
 if listE most l ≠ 0 then (0, 0, listE most l) else if sign < 0 then (0, 0, 1) else match l[sign.toNat]? with
  | none => (0, 0, 1)
  | some s => if turn < 0 ∨ 3 < turn then (0, 0, 1) else if turn = 1 ∨ turn = 3 then (s.high, s.wide, 0) else (s.wide, s.high, 0)
def tup3 (x : Int × Int × Int) : Value := .tuple #[.int .i64 x.1, .int .i64 x.2.1, .int .i64 x.2.2]
theorem tZ14 {P : Prop} (h : P := by
 clear h6 h5
 go_enter Tryz.func145, Tryz.ntmps145
 go_wp2_with (go_at_call 34; refine (HC.out _ ((Gr.refl _).alloc _)).mono ?_; rw [← HE.out]; rintro e w' ⟨rfl, hgw⟩; have hc0 := hgw.cell (p := ⟨w.heap.size, 1, none⟩) (v := .slice (some ⟨blk, off, none⟩) len c) (by go_simp); have hw0 := lcc w' _ hc0; have hat := HAT.out.gr (((Gr.refl _).alloc _).trans hgw); have HGW := hiD hgw; have q0 := hat.c0; have q1 := hat.c1; have q2 := hat.c2; have q3 := hat.c3; obtain ⟨VA, vc, q4, _⟩ := hat.c4; have hb := lcc w' _ q0; clear hgw hat)
 refine wp_region_quiet_grown mixed (by kernel_rfl) ?_
 repeat (go_big_quiet_step (fail))
 refine wpQuiet_nil ?_
 rintro w' ⟨⟨nq, osq⟩, rfl⟩
 go_wp2
 go_ret3
 exact ⟨rfl, (((Gr.refl _).alloc _).trans HGW.out).trans (Gr.trans ((Gr.refl _).alloc _) (Gr.of_eq _ _))⟩) : P := h
theorem tZ116 {P : Prop} (h : P := by
 exact ⟨rfl, ((Gr.refl _).alloc _).trans HGW.out⟩) : P := h
theorem tZ31 {P : Prop} (h : P := by
 go_enter Tryz.func145, Tryz.ntmps145
 go_wp2_with (go_at_call 34; refine (HC.out _ ((Gr.refl _).alloc _)).mono ?_; rw [← HE.out]; rintro e w' ⟨rfl, hgw⟩; have hc0 := hgw.cell (p := ⟨w.heap.size, 1, none⟩) (v := .slice (some ⟨blk, off, none⟩) len c) (by go_simp); have hw0 := lcc w' _ hc0; have HGW := hiD hgw; clear hgw)
 go_ret3
 exact tZ116) : P := h
theorem tZ51 {P : Prop} (h : P := by
 go_enter Tryz.func145, Tryz.ntmps145
 go_wp2_with (go_at_call 34; refine (HC.out _ ((Gr.refl _).alloc _)).mono ?_; rw [← HE.out]; rintro e w' ⟨rfl, hgw⟩; have HGW := hiD hgw; clear hgw)
 go_ret3
 exact tZ116) : P := h
set_option maxHeartbeats 2000000 in
theorem signSize_call (most : Int) (A : Option Addr) (c : Nat) (l : List Sg) (sign turn : Int) (w : World) (hr : SgRow w A l) (len : Nat) (hl : l.length = len) (hlen : len ≤ 1000000) :
 Calls Tryz.prog 145 #[lv most A len c, .int .i64 sign, .int .i64 turn] w fun e w' => e = .returned (tup3 (sizeP most l sign turn)) ∧ Gr w w' := by
 have hc : ∀ w1, Gr w w1 → _ := fun w1 hg => signsCheck_call most A c l w1 (hr.gr hg) len hl (by omega)
 have HC := hiD hc
 have HR := hiD hr
 have HL := hiD hl
 clear hr hl hc
 obtain ⟨E, hE⟩ : ∃ E, E = listE most l := ⟨_, rfl⟩
 have HE := hiD hE
 clear hE
 by_cases h0 : E = 0
 ·subst h0
  have hv : sizeP most l sign turn = if sign < 0 then ((0, 0, 1) : Int × Int × Int) else match l[sign.toNat]? with
   | none => ((0, 0, 1) : Int × Int × Int)
   | some s => if turn < 0 ∨ 3 < turn then ((0, 0, 1) : Int × Int × Int) else if turn = 1 ∨ turn = 3 then (s.high, s.wide, (0 : Int)) else (s.wide, s.high, (0 : Int)) := by unfold sizeP; rw [← HE.out]; simp
  rw [hv]
  clear hv
  by_cases h1 : sign < 0
  ·rw [if_pos h1]
   have d1 : decide (sign < 0) = true := by simp [h1]
   exact tZ51
  ·rw [if_neg h1]
   have d1 : decide (sign < 0) = false := by simp; omega
   by_cases h2 : sign < len
   ·obtain ⟨s, hs⟩ : ∃ s, l[sign.toNat]? = some s := ⟨_, gE (by rw [HL.out]; omega)⟩
    rw [hs]
    obtain ⟨blk, off, rfl, hat⟩ := HR.out.2 _ s hs
    have HAT := hiD hat
    clear hat hs
    have d2 : decide ((len : Int) ≤ sign) = false := by simp; omega
    obtain ⟨k, rfl⟩ := Int.eq_ofNat_of_zero_le (show 0 ≤ sign by omega)
    have d3 : (k : Int) < (len : Int) := by omega
    have hk : k < len := by omega
    have ht : ((k : Nat) : Int).toNat = k := by omega
    rw [ht] at HAT
    by_cases h3 : turn < 0
    ·have d5 : decide (turn < 0) = true := by simp [h3]
     simp only [h3, true_or, if_true]
     exact tZ31
    ·have d5 : decide (turn < 0) = false := by simp; omega
     by_cases h4 : 3 < turn
     ·have d6 : decide (3 < turn) = true := by simp [h4]
      simp only [h4, or_true, if_true]
      exact tZ31
     ·have d6 : decide (3 < turn) = false := by simp; omega
      have h5 : ¬ (turn < 0 ∨ 3 < turn) := by omega
      simp only [if_neg h5]
      by_cases h6 : turn = 1 ∨ turn = 3
      ·rw [if_pos h6]
       have d7 : (turn.tmod 2 == 1) = true := by rcases h6 with rfl | rfl <;> decide
       have d8 : (turn % 2 == 1) = true := by rcases h6 with rfl | rfl <;> decide
       exact tZ14
      ·rw [if_neg h6]
       have d7 : (turn.tmod 2 == 1) = false := by have : turn = 0 ∨ turn = 2 := by omega
                                                  rcases this with rfl | rfl <;> decide
       have d8 : (turn % 2 == 1) = false := by have : turn = 0 ∨ turn = 2 := by omega
                                               rcases this with rfl | rfl <;> decide
       exact tZ14
   ·have hn : l[sign.toNat]? = none := List.getElem?_eq_none (by rw [HL.out]; omega)
    rw [hn]
    have d2 : decide ((len : Int) ≤ sign) = true := by simp; omega
    clear hn
    go_enter Tryz.func145, Tryz.ntmps145
    go_wp2_with (go_at_call 34; refine (HC.out _ ((Gr.refl _).alloc _)).mono ?_; rw [← HE.out]; rintro e w' ⟨rfl, hgw⟩; have hc0 := hgw.cell (p := ⟨w.heap.size, 1, none⟩) (v := .slice A len c) (by go_simp); have hw0 := lcc w' _ hc0; have HGW := hiD hgw; clear hgw)
    go_ret3
    exact tZ116
 ·have hv : sizeP most l sign turn = (0, 0, E) := by unfold sizeP; rw [← HE.out, if_pos h0]
  rw [hv]
  have hne : (E == 0) = false := by simpa using h0
  clear hv
  exact tZ51
inductive Fig where
 | leaf (n a b : Int)
 | over (n a b m c d : Int)
 | beside (ks : List Fig) (s : Int)
 | above (ks : List Fig) (s : Int)
 | ring (n : Int) (f : Fig)
def figT : Fig → TypeId
 | .leaf .. => 242
 | .over .. => 245
 | .beside .. => 239
 | .above .. => 240
 | .ring .. => 247
def sizeF : Fig → FuncId
 | .leaf .. => 265
 | .over .. => 267
 | .beside .. => 261
 | .above .. => 263
 | .ring .. => 269
def putF : Fig → FuncId
 | .leaf .. => 264
 | .over .. => 266
 | .beside .. => 260
 | .above .. => 262
 | .ring .. => 268
mutual
def FigP (w : World) : Fig → Value → Prop
 | .leaf n a b, v => v = .agg #[.int .i64 n, .int .i64 a, .int .i64 b]
 | .over n a b m c d, v => v = .agg #[.int .i64 n, .int .i64 a, .int .i64 b, .int .i64 m, .int .i64 c, .int .i64 d]
 | .beside ks s, v => ∃ A c, v = .agg #[.slice A ks.length c, .int .i64 s] ∧ FigsAt w A 0 ks
 | .above ks s, v => ∃ A c, v = .agg #[.slice A ks.length c, .int .i64 s] ∧ FigsAt w A 0 ks
 | .ring n f, v => ∃ p, v = .agg #[.int .i64 n, .iface (figT f) p] ∧ FigP w f p
def FigsAt (w : World) (A : Option Addr) : Nat → List Fig → Prop
 | _, [] => True
 | j, k :: r => (∃ blk off p, A = some ⟨blk, off, none⟩ ∧ w.cell? ⟨blk, off + j, none⟩ = some (.iface (figT k) p) ∧ FigP w k p) ∧ FigsAt w A (j + 1) r
end
mutual
theorem FigP.gr {w w' : World} (hg : Gr w w') : ∀ (k : Fig) (v : Value), FigP w k v → FigP w' k v
 | .leaf .., _, h => h
 | .over .., _, h => h
 | .beside ks s, _, h => by obtain ⟨A, c, e, h⟩ := h; exact ⟨A, c, e, FigsAt.gr hg A 0 ks h⟩
 | .above ks s, _, h => by obtain ⟨A, c, e, h⟩ := h; exact ⟨A, c, e, FigsAt.gr hg A 0 ks h⟩
 | .ring n f, _, h => by obtain ⟨p, e, h⟩ := h; exact ⟨p, e, FigP.gr hg f p h⟩
theorem FigsAt.gr {w w' : World} (hg : Gr w w') (A : Option Addr) : ∀ (j : Nat) (ks : List Fig), FigsAt w A j ks → FigsAt w' A j ks
 | _, [], _ => trivial
 | j, k :: r, h => by obtain ⟨⟨b, o, p, e, hc, hp⟩, hr⟩ := h; exact ⟨⟨b, o, p, e, hg.cell hc, FigP.gr hg k p hp⟩, FigsAt.gr hg A (j + 1) r hr⟩
end
theorem FigsAt.get {w : World} {A : Option Addr} : ∀ {j : Nat} {ks : List Fig}, FigsAt w A j ks → ∀ {i : Nat} {k : Fig}, ks[i]? = some k → ∃ blk off p, A = some ⟨blk, off, none⟩ ∧ w.cell? ⟨blk, off + (j + i), none⟩ = some (.iface (figT k) p) ∧ FigP w k p
 | _, [], _, i, k, h => by simp at h
 | j, x :: r, hr, 0, k, h => by simp at h; subst h; exact hr.1
 | j, x :: r, hr, i + 1, k, h => by
   have := FigsAt.get hr.2 (i := i) (k := k) (by simpa using h)
   rw [show j + (i + 1) = j + 1 + i by omega]
   exact this
mutual
def figW : Fig → Int
 | .leaf _ a _ => a
 | .over _ a _ _ _ _ => a
 | .beside ks s => s * ((ks.length : Int) - 1) + sumFW ks
 | .above ks _ => maxFW ks
 | .ring _ f => figW f + 24
def sumFW : List Fig → Int
 | [] => 0
 | k :: r => figW k + sumFW r
def maxFW : List Fig → Int
 | [] => 0
 | k :: r => max (figW k) (maxFW r)
end
mutual
def figH : Fig → Int
 | .leaf _ _ b => b
 | .over _ _ b _ _ _ => b
 | .above ks s => s * ((ks.length : Int) - 1) + sumFH ks
 | .beside ks _ => maxFH ks
 | .ring _ f => figH f + 24
def sumFH : List Fig → Int
 | [] => 0
 | k :: r => figH k + sumFH r
def maxFH : List Fig → Int
 | [] => 0
 | k :: r => max (figH k) (maxFH r)
end
mutual
def FigB : Fig → Prop
 | .leaf _ a b => 0 ≤ a ∧ a ≤ 1000000 ∧ 0 ≤ b ∧ b ≤ 1000000
 | .over _ a b _ _ _ => 0 ≤ a ∧ a ≤ 1000000 ∧ 0 ≤ b ∧ b ≤ 1000000
 | .beside ks s => 0 ≤ s ∧ s ≤ 100 ∧ 0 < ks.length ∧ ks.length ≤ 1000 ∧ sumFW ks ≤ 1000000 ∧ FigBs ks
 | .above ks s => 0 ≤ s ∧ s ≤ 100 ∧ 0 < ks.length ∧ ks.length ≤ 1000 ∧ sumFH ks ≤ 1000000 ∧ FigBs ks
 | .ring _ f => FigB f ∧ figW f ≤ 1100000 ∧ figH f ≤ 1100000
def FigBs : List Fig → Prop
 | [] => True
 | k :: r => FigB k ∧ FigBs r
end
theorem sub_bd (s n : Int) (h0 : 0 ≤ s) (h1 : s ≤ 100) (h2 : 0 < n) (h3 : n ≤ 1000) : 0 ≤ s * (n - 1) ∧ s * (n - 1) ≤ 100000 := by
 have a := Int.mul_nonneg h0 (show 0 ≤ n - 1 by omega)
 have b : s * (n - 1) ≤ 100 * (n - 1) := Int.mul_le_mul_of_nonneg_right h1 (by omega)
 omega
mutual
theorem FigB.wh : ∀ (k : Fig), FigB k → 0 ≤ figW k ∧ figW k ≤ 1200000 ∧ 0 ≤ figH k ∧ figH k ≤ 1200000
 | .leaf .., h => by unfold FigB at h; unfold figW figH; omega
 | .over .., h => by unfold FigB at h; unfold figW figH; omega
 | .beside ks s, h => by
   unfold FigB at h
   obtain ⟨h1, h2, h3, h4, h5, h6⟩ := h
   have hb := sub_bd s (ks.length : Int) h1 h2 (by omega) (by omega)
   have := FigBs.wh ks h6
   unfold figW figH
   omega
 | .above ks s, h => by
   unfold FigB at h
   obtain ⟨h1, h2, h3, h4, h5, h6⟩ := h
   have hb := sub_bd s (ks.length : Int) h1 h2 (by omega) (by omega)
   have := FigBs.wh ks h6
   unfold figW figH
   omega
 | .ring _ f, h => by
   unfold FigB at h
   have := FigB.wh f h.1
   unfold figW figH
   omega
theorem FigBs.wh : ∀ (ks : List Fig), FigBs ks → 0 ≤ sumFW ks ∧ 0 ≤ sumFH ks ∧ 0 ≤ maxFW ks ∧ maxFW ks ≤ 1200000 ∧ 0 ≤ maxFH ks ∧ maxFH ks ≤ 1200000
 | [], _ => by unfold sumFW sumFH maxFW maxFH; omega
 | k :: r, h => by
   unfold FigBs at h
   have := FigB.wh k h.1
   have := FigBs.wh r h.2
   unfold sumFW sumFH maxFW maxFH
   omega
end
theorem sumFW_snoc (k : Fig) : ∀ ks : List Fig, sumFW (ks ++ [k]) = sumFW ks + figW k
 | [] => by simp [sumFW]
 | x :: r => by simp only [List.cons_append, sumFW, sumFW_snoc k r]; omega
theorem sumFH_snoc (k : Fig) : ∀ ks : List Fig, sumFH (ks ++ [k]) = sumFH ks + figH k
 | [] => by simp [sumFH]
 | x :: r => by simp only [List.cons_append, sumFH, sumFH_snoc k r]; omega
theorem maxFW_snoc (k : Fig) (h : 0 ≤ figW k) : ∀ ks : List Fig, maxFW (ks ++ [k]) = max (maxFW ks) (figW k)
 | [] => by simp [maxFW]; omega
 | x :: r => by simp only [List.cons_append, maxFW, maxFW_snoc k h r]; omega
theorem maxFH_snoc (k : Fig) (h : 0 ≤ figH k) : ∀ ks : List Fig, maxFH (ks ++ [k]) = max (maxFH ks) (figH k)
 | [] => by simp [maxFH]; omega
 | x :: r => by simp only [List.cons_append, maxFH, maxFH_snoc k h r]; omega
theorem FigBs.all : ∀ {ks : List Fig}, FigBs ks → ∀ k ∈ ks, FigB k
 | [], _, k, hk => by cases hk
 | x :: r, h, k, hk => by
   rcases List.mem_cons.1 hk with rfl | hk
   ·exact h.1
   ·exact FigBs.all h.2 k hk
theorem FigBs.of : ∀ {ks : List Fig}, (∀ k ∈ ks, FigB k) → FigBs ks
 | [], _ => trivial
 | x :: r, h => ⟨h x (by simp), FigBs.of fun k hk => h k (by simp [hk])⟩
theorem sumFW_take {ks : List Fig} (h : FigBs ks) (j : Nat) : 0 ≤ sumFW (ks.take j) ∧ sumFW (ks.take j) ≤ sumFW ks := by
 induction ks generalizing j with
 | nil => simp [sumFW]
 | cons k r ih =>
   have h1 := FigB.wh k h.1
   have h2 := FigBs.wh r h.2
   cases j with
   | zero => simp only [List.take_zero, sumFW]; omega
   | succ j => have := ih h.2 j; simp only [List.take_succ_cons, sumFW]; omega
theorem sumFH_take {ks : List Fig} (h : FigBs ks) (j : Nat) : 0 ≤ sumFH (ks.take j) ∧ sumFH (ks.take j) ≤ sumFH ks := by
 induction ks generalizing j with
 | nil => simp [sumFH]
 | cons k r ih =>
   have h1 := FigB.wh k h.1
   have h2 := FigBs.wh r h.2
   cases j with
   | zero => simp only [List.take_zero, sumFH]; omega
   | succ j => have := ih h.2 j; simp only [List.take_succ_cons, sumFH]; omega
theorem maxF_take {ks : List Fig} (h : FigBs ks) (j : Nat) : 0 ≤ maxFW (ks.take j) ∧ maxFW (ks.take j) ≤ 1200000 ∧ 0 ≤ maxFH (ks.take j) ∧ maxFH (ks.take j) ≤ 1200000 := by
 have := FigBs.wh (ks.take j) (FigBs.of fun k hk => h.all k (List.mem_of_mem_take hk))
 omega
def SizeOk (k : Fig) : Prop := ∀ (w : World) (p : Value), FigP w k p → Calls Tryz.prog (sizeF k) #[p] w fun e w' => e = .returned (.tuple #[.int .i64 (figW k), .int .i64 (figH k)]) ∧ Gr w w'
theorem run_sizeM (k : Fig) (p : Value) (w : World) : (callMethod (.iface (figT k) p) "ostracon/grid.size" #[]).run Tryz.prog w = .ok (.enter (sizeF k) #[p]) w := by
 cases k <;> kernel_rfl
theorem run_size242 (p : Value) (w : World) : (callMethod (.iface 242 p) "ostracon/grid.size" #[]).run Tryz.prog w = .ok (.enter 265 #[p]) w := run_sizeM (.leaf 0 0 0) p w
noncomputable def cmV (v : Value) (name : String) (a : Array Value) : Sem Next := callMethod v name a
theorem execOp_inv0 (a : Act) (dst : Option Tmp) (x : Operand) (name : String) (ats : Array TypeId) (ty : TypeId) (pos : String) (after : Array Edge) (guard : Option (Nat × Bool)) :
 execOp a.eval { dst, op := .call { callee := .invoke x name, args := #[], argTypes := ats }, type := ty, pos, after, guard } = cmV (a.eval x) name #[] := by
 simp [execOp, resolve, invoke, cmV]
theorem execOp_inv3 (a : Act) (dst : Option Tmp) (x y z u : Operand) (name : String) (ats : Array TypeId) (ty : TypeId) (pos : String) (after : Array Edge) (guard : Option (Nat × Bool)) :
 execOp a.eval { dst, op := .call { callee := .invoke x name, args := #[y, z, u], argTypes := ats }, type := ty, pos, after, guard } = cmV (a.eval x) name #[a.eval y, a.eval z, a.eval u] := by
 simp [execOp, resolve, invoke, cmV]
theorem run_cmSize (k : Fig) (p : Value) (w : World) : (cmV (.iface (figT k) p) "ostracon/grid.size" #[]).run Tryz.prog w = .ok (.enter (sizeF k) #[p]) w := run_sizeM k p w
attribute [local go_sem ↓] execOp_inv0 execOp_inv3
attribute [local go_sem] run_cmSize
set_option maxHeartbeats 400000 in
theorem leafSize_call (n a b : Int) : Ans 265 #[.agg #[.int .i64 n, .int .i64 a, .int .i64 b]] (.tuple #[.int .i64 a, .int .i64 b]) := by
 intro w
 go_enter Tryz.func265, Tryz.ntmps265
 go_wp2
 refine wp_region_quiet_grown mixed (by kernel_rfl) ?_
 repeat (go_big_quiet_step (fail))
 refine wpQuiet_nil ?_
 rintro w' ⟨⟨nq, osq⟩, rfl⟩
 go_wp2
 go_ret2
 exact ⟨rfl, gw⟩
set_option maxHeartbeats 400000 in
theorem overSize_call (n a b m c d : Int) : Ans 267 #[.agg #[.int .i64 n, .int .i64 a, .int .i64 b, .int .i64 m, .int .i64 c, .int .i64 d]] (.tuple #[.int .i64 a, .int .i64 b]) := by
 intro w
 have hl := leafSize_call n a b
 go_enter Tryz.func267, Tryz.ntmps267
 go_wp2_with (go_at_call 265; refine (hl.at _).mono ?_; rintro e w' ⟨rfl, q, os, rfl⟩)
 go_ret2
 exact ⟨rfl, gw⟩
theorem tZ74 {P : Prop} (h : P := by
 have e1 : ks.take j = ks := List.take_of_length_le (by rw [HN.out]; exact Nat.le_refl _)
 have E1 := hiD e1
 clear e1
 go_wp2
 go_ret2
 exact ⟨by rw [E1.out]; rfl, G1.out.trans HG.out⟩) : P := h
theorem tZ97 {P : Prop} (h : P := by
 have hjk : j < ks.length := by rw [← HN.out]; exact hjl
 rw [List.take_succ_eq_append_getElem hjk]
 rw [gE hjk] at hk
 rw [Option.some.inj hk]) : P := h
set_option maxHeartbeats 2000000 in
theorem besideSize (ks : List Fig) (s : Int) (hB : FigB (.beside ks s)) (hk : ∀ k ∈ ks, SizeOk k) : SizeOk (.beside ks s) := by
 intro w p hp
 obtain ⟨A, c, rfl, hat⟩ := hp
 obtain ⟨b1, b2, b3, b4, b5, b6⟩ := hB
 show Calls Tryz.prog 261 _ _ fun e w' => e = .returned (.tuple #[.int .i64 (s * ((ks.length : Int) - 1) + sumFW ks), .int .i64 (maxFH ks)]) ∧ _
 obtain ⟨n, hn⟩ : ∃ n, n = ks.length := ⟨_, rfl⟩
 rw [← hn] at b3 b4 ⊢
 have hb := sub_bd s (n : Int) b1 b2 (by omega) (by omega)
 have HN := hiD hn
 have HAT := hiD hat
 have HK := hiD hk
 have B6 := hiD b6
 have B5 := hiD b5
 clear hn hat hk b6 b5
 have z0 : IntKind.i64.wrap ((n : Int) - 1) = (n : Int) - 1 := IntWalk.i64_in _ ⟨by omega, by omega⟩
 have z1 : IntKind.i64.wrap (s * ((n : Int) - 1)) = s * ((n : Int) - 1) := IntWalk.i64_in _ ⟨by omega, by omega⟩
 go_enter Tryz.func261, Tryz.ntmps261
 go_upto_region 2 with fail
 have g1 : Gr w (w.alloc (.cells #[.slice A n c, .int .i64 s] 239)) := (Gr.refl w).alloc _
 have m0 : (w.alloc (.cells #[.slice A n c, .int .i64 s] 239)).cell? ⟨w.heap.size, 0, none⟩ = some (.slice A n c) := by go_simp
 generalize w.alloc (.cells #[.slice A n c, .int .i64 s] 239) = W1 at g1 m0 ⊢
 have G1 := hiD g1
 have n1 := lcc W1 _ m0
 clear g1
 have N1 := hiD n1
 go_wp2
 go_loopw [18, 2, 3] (fun i a b wr => ∃ j : Nat, i = .int .i64 j ∧ j ≤ n ∧ a = .int .i64 (s * ((n : Int) - 1) + sumFW (ks.take j)) ∧ b = .int .i64 (maxFH (ks.take j)) ∧ Gr W1 wr) (fun i _ _ _ => n - (intOf i).toNat)
 case atStart => exact ⟨0, rfl, Nat.zero_le _, by simp [sumFW], by simp [maxFH], Gr.refl _⟩
 case round =>
  obtain ⟨j, rfl, hj, rfl, rfl, hg⟩ := hrel
  have HG := hiD hg
  clear hg
  have t1 := sumFW_take B6.out j
  have t2 := maxF_take B6.out j
  have t5 := B5.out
  by_cases hjl : j < n
  ·have hd : decide ((j : Int) < (n : Int)) = true := by simp; omega
   obtain ⟨k, hk⟩ : ∃ k, ks[j]? = some k := ⟨_, gE (by rw [← HN.out]; exact hjl)⟩
   obtain ⟨blk, off, p, rfl, hc, hp⟩ := HAT.out.get hk
   have c1 := (G1.out.trans HG.out).cell hc
   rw [Nat.zero_add] at c1
   have hb1 := lcc wr _ c1
   have hkm := List.mem_of_getElem? hk
   have hkb := FigB.wh k (B6.out.all k hkm)
   have hsz := fun w1 (hg : Gr wr w1) => HK.out k hkm w1 p (FigP.gr ((G1.out.trans HG.out).trans hg) k p hp)
   have HSZ := hiD hsz
   have htk : ks.take (j + 1) = ks.take j ++ [k] := by
    exact tZ97
   have HTK := hiD htk
   have tj : ((j : Nat) : Int).toNat = j := by omega
   have t3 := sumFW_take B6.out (j + 1)
   rw [htk, sumFW_snoc] at t3
   clear hk hc hp hsz htk
   have z2 : IntKind.i64.wrap (s * ((n : Int) - 1) + sumFW (ks.take j) + figW k) = s * ((n : Int) - 1) + sumFW (ks.take j) + figW k := IntWalk.i64_in _ ⟨by omega, by omega⟩
   go_wp2_with ((with_reducible refine (HSZ.out _ (Gr.refl _)).mono ?_); rintro e w' ⟨rfl, hgw⟩; have HGW := hiD hgw; clear hgw)
   go_roundw
   case rel =>
    refine ⟨j + 1, by go_num, by omega, ?_, ?_, HG.out.trans HGW.out⟩
    ·rw [HTK.out, sumFW_snoc, ← Int.add_assoc]
    ·rw [HTK.out, maxFH_snoc _ hkb.2.2.1]; congr 1; rw [Int.max_def]; split <;> split <;> omega
   case measure => simp [intOf]; omega
  ·obtain rfl : j = n := by omega
   have hd : decide ((j : Int) < (j : Int)) = false := by simp
   exact tZ74
set_option maxHeartbeats 2000000 in
theorem aboveSize (ks : List Fig) (s : Int) (hB : FigB (.above ks s)) (hk : ∀ k ∈ ks, SizeOk k) : SizeOk (.above ks s) := by
 intro w p hp
 obtain ⟨A, c, rfl, hat⟩ := hp
 obtain ⟨b1, b2, b3, b4, b5, b6⟩ := hB
 show Calls Tryz.prog 263 _ _ fun e w' => e = .returned (.tuple #[.int .i64 (maxFW ks), .int .i64 (s * ((ks.length : Int) - 1) + sumFH ks)]) ∧ _
 obtain ⟨n, hn⟩ : ∃ n, n = ks.length := ⟨_, rfl⟩
 rw [← hn] at b3 b4 ⊢
 have hb := sub_bd s (n : Int) b1 b2 (by omega) (by omega)
 have HN := hiD hn
 have HAT := hiD hat
 have HK := hiD hk
 have B6 := hiD b6
 have B5 := hiD b5
 clear hn hat hk b6 b5
 have z0 : IntKind.i64.wrap ((n : Int) - 1) = (n : Int) - 1 := IntWalk.i64_in _ ⟨by omega, by omega⟩
 have z1 : IntKind.i64.wrap (s * ((n : Int) - 1)) = s * ((n : Int) - 1) := IntWalk.i64_in _ ⟨by omega, by omega⟩
 go_enter Tryz.func263, Tryz.ntmps263
 go_upto_region 2 with fail
 have g1 : Gr w (w.alloc (.cells #[.slice A n c, .int .i64 s] 240)) := (Gr.refl w).alloc _
 have m0 : (w.alloc (.cells #[.slice A n c, .int .i64 s] 240)).cell? ⟨w.heap.size, 0, none⟩ = some (.slice A n c) := by go_simp
 generalize w.alloc (.cells #[.slice A n c, .int .i64 s] 240) = W1 at g1 m0 ⊢
 have G1 := hiD g1
 have n1 := lcc W1 _ m0
 clear g1
 have N1 := hiD n1
 go_wp2
 go_loopw [18, 3, 2] (fun i a b wr => ∃ j : Nat, i = .int .i64 j ∧ j ≤ n ∧ a = .int .i64 (s * ((n : Int) - 1) + sumFH (ks.take j)) ∧ b = .int .i64 (maxFW (ks.take j)) ∧ Gr W1 wr) (fun i _ _ _ => n - (intOf i).toNat)
 case atStart => exact ⟨0, rfl, Nat.zero_le _, by simp [sumFH], by simp [maxFW], Gr.refl _⟩
 case round =>
  obtain ⟨j, rfl, hj, rfl, rfl, hg⟩ := hrel
  have HG := hiD hg
  clear hg
  have t1 := sumFH_take B6.out j
  have t2 := maxF_take B6.out j
  have t5 := B5.out
  by_cases hjl : j < n
  ·have hd : decide ((j : Int) < (n : Int)) = true := by simp; omega
   obtain ⟨k, hk⟩ : ∃ k, ks[j]? = some k := ⟨_, gE (by rw [← HN.out]; exact hjl)⟩
   obtain ⟨blk, off, p, rfl, hc, hp⟩ := HAT.out.get hk
   have c1 := (G1.out.trans HG.out).cell hc
   rw [Nat.zero_add] at c1
   have hb1 := lcc wr _ c1
   have hkm := List.mem_of_getElem? hk
   have hkb := FigB.wh k (B6.out.all k hkm)
   have hsz := fun w1 (hg : Gr wr w1) => HK.out k hkm w1 p (FigP.gr ((G1.out.trans HG.out).trans hg) k p hp)
   have HSZ := hiD hsz
   have htk : ks.take (j + 1) = ks.take j ++ [k] := by
    exact tZ97
   have HTK := hiD htk
   have tj : ((j : Nat) : Int).toNat = j := by omega
   have t3 := sumFH_take B6.out (j + 1)
   rw [htk, sumFH_snoc] at t3
   clear hk hc hp hsz htk
   obtain ⟨fw, hfw⟩ : ∃ fw, fw = figH k := ⟨_, rfl⟩
   obtain ⟨fh, hfh⟩ : ∃ fh, fh = figH k := ⟨_, rfl⟩
   have z2 : IntKind.i64.wrap (s * ((n : Int) - 1) + sumFH (ks.take j) + figH k) = s * ((n : Int) - 1) + sumFH (ks.take j) + figH k := IntWalk.i64_in _ ⟨by omega, by omega⟩
   go_wp2_with ((with_reducible refine (HSZ.out _ (Gr.refl _)).mono ?_); rintro e w' ⟨rfl, hgw⟩; have HGW := hiD hgw; clear hgw)
   go_roundw
   case rel =>
    refine ⟨j + 1, by go_num, by omega, ?_, ?_, HG.out.trans HGW.out⟩
    ·rw [HTK.out, sumFH_snoc, ← Int.add_assoc]
    ·rw [HTK.out, maxFW_snoc _ hkb.1]; congr 1; rw [Int.max_def]; split <;> split <;> omega
   case measure => simp [intOf]; omega
  ·obtain rfl : j = n := by omega
   have hd : decide ((j : Int) < (j : Int)) = false := by simp
   exact tZ74
set_option maxHeartbeats 2000000 in
theorem ringSize (n : Int) (f : Fig) (hB : FigB (.ring n f)) (hk : SizeOk f) : SizeOk (.ring n f) := by
 intro w p hp
 obtain ⟨q, rfl, hq⟩ := hp
 have hb := FigB.wh f hB.1
 show Calls Tryz.prog 269 _ _ fun e w' => e = .returned (.tuple #[.int .i64 (figW f + 24), .int .i64 (figH f + 24)]) ∧ _
 have hsz := fun w1 (hg : Gr w w1) => hk w1 q (FigP.gr hg f q hq)
 have HSZ := hiD hsz
 clear hsz hk hq hB
 have z1 : IntKind.i64.wrap (figW f + 24) = figW f + 24 := IntWalk.i64_in _ ⟨by omega, by omega⟩
 have z2 : IntKind.i64.wrap (figH f + 24) = figH f + 24 := IntWalk.i64_in _ ⟨by omega, by omega⟩
 go_enter Tryz.func269, Tryz.ntmps269
 go_wp2_with ((with_reducible refine (HSZ.out _ ((Gr.refl _).alloc _)).mono ?_); rintro e w' ⟨rfl, hgw⟩; have HGW := hiD hgw; clear hgw)
 go_ret2
 exact tZ116
mutual
theorem size_fig : ∀ (k : Fig), FigB k → SizeOk k
 | .leaf n a b, _ => fun w p hp => by cases hp; exact leafSize_call n a b w
 | .over n a b m c d, _ => fun w p hp => by cases hp; exact overSize_call n a b m c d w
 | .beside ks s, h => besideSize ks s h (size_figs ks (by unfold FigB at h; exact h.2.2.2.2.2))
 | .above ks s, h => aboveSize ks s h (size_figs ks (by unfold FigB at h; exact h.2.2.2.2.2))
 | .ring n f, h => ringSize n f h (size_fig f (by unfold FigB at h; exact h.1))
theorem size_figs : ∀ (ks : List Fig), FigBs ks → ∀ k ∈ ks, SizeOk k
 | [], _, k, hk => by cases hk
 | x :: r, h, k, hk => by
   rcases List.mem_cons.1 hk with e | hk
   ·rw [e]; exact size_fig x h.1
   ·exact size_figs r h.2 k hk
end
end Go.Proofs.OGW
