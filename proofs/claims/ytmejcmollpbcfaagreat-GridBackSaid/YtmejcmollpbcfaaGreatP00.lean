import Derived.Below
import Derived.BigQuiet
import Derived.ChangeAlike
import Derived.Deep.QuietTactic
import Derived.KernelRfl
import Derived.Laws.MakeOwn
import Derived.Laws.OwnMore
import Derived.Laws.Rows
import Derived.Laws.Slices
import Derived.Lib.Hide
import Derived.Maps.AppendAt
import Derived.Outline
import Derived.OwnWalk
import Derived.RegionTactic
import Derived.RowKit3
import Derived.Shelf.SlSortCmp.QuietGrown
import Derived.StillTail
import Derived.Tactics
import Derived.Test.YtmejcmollpbcfaaGreatProg
import Derived.WalkKit
import Derived.WalkLawsBesides
import Derived.WalkSpells
import Derived.WideLaws
set_option linter.all false
namespace Go.Proofs.OGW
open Go.RowKit Go.Sort
theorem tZ44 {P : Prop} (h : P := by
 induction f with
 | zero => intro listed a w hw h; rw [Nat.zero_add]; exact hL _ _ _ hw h
 | succ f ih =>
   intro listed a w hw h
   have e : f + 1 + g = (f + g) + 1 := by omega
   rw [e]
   exact ⟨fun h0 => absurd h0 h.1, fun i hi => wpOp_of_qOp hw (fun a' w' hw' h' => ih _ a' w' hw' h') (h.2 i hi).2⟩) : P := h
theorem tZ13 {P : Prop} (h : P := by
 intro listed a inv hfree hr hy H
 refine ⟨List.ne_nil_of_mem hr, fun j hj => ?_⟩
 have hjn := early listed inv hr j hj
 refine ⟨hjn, ?_⟩
 by_cases hji : j = i
 ·rw [hji]; exact hy.qOp hi H
 ·obtain ⟨hjun, oj, hoj, hall⟩ := mem_ready.1 hj
  have hun := (mem_ready.1 hr).1
  have hnot : ∀ e ∈ oj.after, Region.binds md e = true → e.on ≠ i := by
   intro e he hb heq
   have h0 := hall e he hb
   rw [heq, getD_both hun] at h0
   cases h0
  have hput := qOp_put hoj (hfree j oj hoj hji hjun hnot) (fun cs b => hsel i oi cs b hi) (fun cs b => hsel j oj cs b hoj) hy (H.2 j (ready_mono hj hji)).2
  refine qOp_mono (fun a' h3 => ih (listed.setIfInBounds j true) a' (inv.set hj hjn) ?_ (ready_mono hr (Ne.symm hji)) h3.1 ?_) hput
  ·intro k ok hk hki hun' hno
   refine hfree k ok hk hki ?_ hno
   by_cases hjk : j = k
   ·rw [← hjk]; exact hjun
   ·rwa [getD_set_ne true hjk] at hun'
  ·rw [Array.setIfInBounds_comm _ _ hji]
   exact h3.2) : P := h
section
variable {P : Program} {ops : Array Oper} {md : Region.Mode} {C : World → Prop}
def headC (P : Program) (md : Region.Mode) (ops : Array Oper) (C : World → Prop) (n : Nat) (L : Array Bool → Act → Prop) : Nat → Array Bool → Act → Prop
 | 0, listed, a => L listed a
 | f + 1, listed, a => Region.ready md ops listed ≠ [] ∧ ∀ i ∈ Region.ready md ops listed, i < n ∧ qOp P ops C i (headC P md ops C n L f (listed.setIfInBounds i true)) a
theorem any_of_headC {n g : Nat} {L : Array Bool → Act → Prop} {Q : Exit → Act → World → Prop} (hL : ∀ listed a w, C w → L listed a → wpAny P md ops Q g listed a w) :
 ∀ (f : Nat) (listed : Array Bool) (a : Act) (w : World), C w → headC P md ops C n L f listed a → wpAny P md ops Q (f + g) listed a w := by
 intro f
 exact tZ44
theorem headC_take {n i : Nat} {oi : Oper} {v : Value} {L : Array Bool → Act → Prop} (hi : ops[i]? = some oi) (hsel : ∀ (j : Nat) (o : Oper) cs b, ops[j]? = some o → o.op ≠ .select cs b)
 (hs : Region.sinkB md ops n = true) (hc : Region.chainB md ops n = true) (hn : n < ops.size) (hin : i < n)
 (hdone : ∀ listed a, L listed a → ∀ j ∈ Region.ready md ops listed, n ≤ j) (f : Nat) :
 ∀ (listed : Array Bool) (a : Act), HeadInv md ops n listed →
  (∀ j oj, ops[j]? = some oj → j ≠ i → listed.getD j true = false → (∀ e ∈ oj.after, Region.binds md e = true → e.on ≠ i) → oi.apart ops oj = true) →
  i ∈ Region.ready md ops listed → YieldsIn P ops C oi v a →
  headC P md ops C n L f (listed.setIfInBounds i true) (a.put oi.dst v) → headC P md ops C n L (f + 1) listed a := by
 have early : ∀ (listed : Array Bool), HeadInv md ops n listed → i ∈ Region.ready md ops listed → ∀ j ∈ Region.ready md ops listed, j < n := by
  intro listed inv hr j hj
  rcases Nat.lt_or_ge j n with h | h
  ·exact h
  ·exact absurd hj (tail_waits hs hc hn inv _ i rfl hin (mem_ready.1 hr).1 j h)
 induction f with
 | zero =>
   intro listed a inv _ hr hy H
   refine ⟨List.ne_nil_of_mem hr, fun j hj => ⟨early listed inv hr j hj, ?_⟩⟩
   by_cases hji : j = i
   ·rw [hji]; exact hy.qOp hi H
   ·have h1 := hdone _ _ H j (ready_mono hj hji)
    have h2 := early listed inv hr j hj
    omega
 | succ f ih =>
   exact tZ13
theorem headC_lex {n g : Nat} {Lq : Act → Prop} (hsel : Region.noSelect ops = true) (hs : Region.sinkB md ops n = true) (hc : Region.chainB md ops n = true) (hn : n < ops.size) :
 ∀ (l : List Oper) (k : Nat) (listed : Array Bool) (a : Act), (∀ j, j < l.length → l[j]? = ops[k + j]?) → k + l.length = n → HeadInv md ops n listed →
 Region.lexHead md ops g l.length k listed = true → wpQuiet P ops C Lq l a →
 headC P md ops C n (fun listed' a' => Region.seqB md ops g n listed' = true ∧ Lq a') l.length listed a
 | [], k, listed, a, _, hk, _, hB, h => by
   obtain rfl : k = n := by simpa using hk
   exact ⟨by simpa [Region.lexHead] using hB, h⟩
 | o :: l, k, listed, a, hl, hk, inv, hB, h => by
   have h0 : ops[k]? = some o := by simpa using (hl 0 (by simp)).symm
   simp only [List.length_cons, Region.lexHead, Bool.and_eq_true] at hB
   simp only [List.length_cons] at hk
   obtain ⟨⟨hr, hf⟩, hB'⟩ := hB
   have hr' : k ∈ Region.ready md ops listed := by simpa using hr
   have hst : qOp P ops C k (wpQuiet P ops C Lq l) a := by unfold qOp; simp only [h0]; exact h
   obtain ⟨v, hy, hK⟩ := yieldsIn_of_qOp h0 hst
   refine headC_take h0 (Region.noSelect_spec hsel) hs hc hn (by omega) (fun listed' a' hL => seqB_ready hL.1) l.length listed a inv (Region.free_spec h0 hf) hr' hy ?_
   refine headC_lex hsel hs hc hn l (k + 1) _ _ (fun j hj => ?_) (by omega) (inv.set hr' (by omega)) hB' hK
   have := hl (j + 1) (by simp; omega)
   simpa [Nat.add_assoc, Nat.add_comm 1 j] using this
theorem region_tail {id : Nat} {Q : Exit → Act → World → Prop} {a : Act} {w : World} {l : List Oper} (n : Nat) (hm : P.follows .mixedOrders = true) (hB : Region.lexTailB .any l.toArray n = true)
 (hC : C { w with drawn := w.drawn + 1 })
 (h : wpQuiet P l.toArray C (fun a' => ∀ w', C w' → wpList P l.toArray Q (l.drop n) a' w') (l.take n) a) : (Code.region id l.toArray true).wp P Q a w := by
 simp only [Region.lexTailB, Bool.and_eq_true, decide_eq_true_eq] at hB
 obtain ⟨⟨⟨⟨hsel, hn⟩, hs⟩, hc⟩, hlex⟩ := hB
 have hn' : n < l.length := by simpa using hn
 have htl : (l.take n).length = n := by simp; omega
 have hdl : (l.drop n).length = l.toArray.size - n := by simp
 have inv0 : HeadInv .any l.toArray n (Array.replicate l.toArray.size false) :=
  ⟨by simp, fun j oj _ hl => (by rw [getD_replicate_false] at hl; cases hl), fun t _ ht => getD_in (by simpa using ht) (getD_replicate_false _ _)⟩
 have H := headC_lex (md := .any) (g := l.toArray.size - n) hsel hs hc hn (l.take n) 0 _ a (fun j hj => by
  rw [htl] at hj
  simp [hj]) (by simpa using htl) inv0 (by rw [htl]; exact hlex) h
 refine wp_region_any hm ?_
 have R := any_of_headC (Q := Q) (g := l.toArray.size - n) (fun listed a' w' hw' hL => by
  have := wpAny_of_seq (md := .any) (Q' := Q) (l.drop n) n listed a' w' (fun j => by simp [List.getElem?_drop]) (by rw [hdl]; exact hL.1) (hL.2 w' hw')
  rwa [hdl] at this) _ _ _ _ hC H
 have e : (l.take n).length + (l.toArray.size - n) = l.toArray.size := by rw [htl]; omega
 rw [e] at R
 exact R
end
structure Gr (w w' : World) : Prop where
 b : Below w.heap.size w w'
 d : w.drawn ≤ w'.drawn
theorem Gr.refl (w : World) : Gr w w := ⟨Below.refl _ _, Nat.le_refl _⟩
theorem Gr.trans {a b c : World} (h : Gr a b) (k : Gr b c) : Gr a c := ⟨h.b.trans (k.b.mono h.b.size), Nat.le_trans h.d k.d⟩
theorem Gr.alloc {w W : World} (h : Gr w W) (o : Obj) : Gr w (W.alloc o) := ⟨h.b.alloc h.b.size o, h.d⟩
theorem Gr.drewN {w W : World} (h : Gr w W) (n : Nat) : Gr w (W.drewN n) := ⟨⟨h.b.os, h.b.tape, h.b.output, h.b.size, h.b.block⟩, Nat.le_trans h.d (Nat.le_add_right _ _)⟩
theorem Gr.drew {w W : World} (h : Gr w W) : Gr w W.drew := h.drewN 1
theorem Gr.setCell {w W : World} (h : Gr w W) {p : Addr} (hp : w.heap.size ≤ p.block) (u : Value) : Gr w (W.setCell p u) := ⟨h.b.setCell hp u, h.d⟩
theorem Gr.grow {w W : World} (h : Gr w W) (os : Array Obj) : Gr w (Sort.grow W os) :=
 ⟨h.b.trans ⟨rfl, rfl, rfl, by simp, fun k hk => heap_grow_old _ _ (Nat.lt_of_lt_of_le hk h.b.size)⟩, h.d⟩
theorem gw {w w' : World} (h : Gr w w' := by repeat (first | exact Gr.refl _ | apply Gr.grow | apply Gr.drewN | apply Gr.alloc)) : Gr w w' := h
theorem Gr.grown {w W w' : World} {row : Option Nat} (h : Gr w W) (hg : W.grownBy w' row) (hr : ∀ k, row = some k → w.heap.size ≤ k) (hd : W.drawn ≤ w'.drawn) : Gr w w' :=
 ⟨h.b.grown hg h.b.size hr, Nat.le_trans h.d hd⟩
theorem Gr.eq {w w' : World} (h : Gr w w') : ∃ q os, w' = Sort.grow (w.drewN q) os := by
 obtain ⟨⟨h1, h2, h3, h4, h5⟩, hd⟩ := h
 refine ⟨w'.drawn - w.drawn, w'.heap.extract w.heap.size w'.heap.size, ?_⟩
 cases w' with
 | mk heap tape drawn os output =>
   cases w with
   | mk heap0 tape0 drawn0 os0 output0 =>
     simp only at h1 h2 h3 h4 h5 hd
     subst h1 h2 h3
     simp only [Sort.grow, World.drewN, World.mk.injEq, true_and, and_true]
     refine ⟨?_, by omega⟩
     apply Array.ext_getElem?
     intro i
     rw [Array.getElem?_append]
     split
     ·rename_i hi; exact h5 i hi
     ·rename_i hi
      simp only [Array.getElem?_extract]
      by_cases hj : i < heap.size
      ·rw [if_pos (by omega)]; congr 1; omega
      ·rw [if_neg (by omega)]; exact Array.getElem?_eq_none (by omega)
theorem Gr.of_eq {w : World} (q : Nat) (os : Array Obj) : Gr w (Sort.grow (w.drewN q) os) := ((Gr.refl w).drewN q).grow os
theorem lcc : type_of% @World.block_lt_of_cell? := @World.block_lt_of_cell?
theorem Gr.cell {w w' : World} (h : Gr w w') {p : Addr} {v : Value} (hc : w.cell? p = some v) : w'.cell? p = some v :=
 (h.b.cell (lcc w p hc)).trans hc
def Ans (f : FuncId) (args : Array Value) (v : Value) : Prop := ∀ w, Calls Tryz.prog f args w fun e w' => e = .returned v ∧ Gr w w'
theorem Ans.at {f : FuncId} {args : Array Value} {v : Value} (h : Ans f args v) (w : World) : Calls Tryz.prog f args w fun e w' => e = .returned v ∧ ∃ q os, w' = Sort.grow (w.drewN q) os :=
 (h w).mono fun _ _ ⟨he, hg⟩ => ⟨he, hg.eq⟩
theorem Ans.quiet {f : FuncId} {args : Array Value} {v : Value} (h : Ans f args v) {w : World} {n : Nat} {os : Array Obj} :
 Calls Tryz.prog f args (Sort.grow (w.drewN n) os) fun e w'' => e = .returned v ∧ ∃ p : GrownBy, w'' = Sort.grow (w.drewN p.n) p.os :=
 Calls.grown_of (h.at _)
theorem mixed : Tryz.prog.follows .mixedOrders = true := by kernel_rfl
theorem tail_grown {id : Nat} {Q : Exit → Act → World → Prop} {a : Act} {w : World} {l : List Oper} (n : Nat) (hB : Region.lexTailB .any l.toArray n = true)
 (h : wpQuiet Tryz.prog l.toArray (fun w' => ∃ p : GrownBy, w' = Sort.grow (w.drewN p.n) p.os) (fun a' => ∀ w', (∃ p : GrownBy, w' = Sort.grow (w.drewN p.n) p.os) → wpList Tryz.prog l.toArray Q (l.drop n) a' w') (l.take n) a) :
 (Code.region id l.toArray true).wp Tryz.prog Q a w :=
 region_tail n mixed hB ⟨⟨1, #[]⟩, by rw [grow_empty]; rfl⟩ h
section
variable (w : World) (os : Array Obj) (n i k : Nat) (v : Value)
theorem ltz0 {a m : Nat} (h : 0 < m) : (a < a + m) = True := by simp; omega
theorem ltk0 {a k m : Nat} (h : k < m) : (a + k < a + m) = True := by simp; omega
theorem ltz1 {a m x1 : Nat} (h : 0 < m) : (a < a + m + x1) = True := by simp; omega
theorem ltk1 {a k m x1 : Nat} (h : k < m) : (a + k < a + m + x1) = True := by simp; omega
theorem ltz2 {a m x1 x2 : Nat} (h : 0 < m) : (a < a + m + x1 + x2) = True := by simp; omega
theorem ltk2 {a k m x1 x2 : Nat} (h : k < m) : (a + k < a + m + x1 + x2) = True := by simp; omega
theorem ltz3 {a m x1 x2 x3 : Nat} (h : 0 < m) : (a < a + m + x1 + x2 + x3) = True := by simp; omega
theorem ltk3 {a k m x1 x2 x3 : Nat} (h : k < m) : (a + k < a + m + x1 + x2 + x3) = True := by simp; omega
theorem ltz4 {a m x1 x2 x3 x4 : Nat} (h : 0 < m) : (a < a + m + x1 + x2 + x3 + x4) = True := by simp; omega
theorem ltk4 {a k m x1 x2 x3 x4 : Nat} (h : k < m) : (a + k < a + m + x1 + x2 + x3 + x4) = True := by simp; omega
theorem ltz5 {a m x1 x2 x3 x4 x5 : Nat} (h : 0 < m) : (a < a + m + x1 + x2 + x3 + x4 + x5) = True := by simp; omega
theorem ltk5 {a k m x1 x2 x3 x4 x5 : Nat} (h : k < m) : (a + k < a + m + x1 + x2 + x3 + x4 + x5) = True := by simp; omega
theorem ltz6 {a m x1 x2 x3 x4 x5 x6 : Nat} (h : 0 < m) : (a < a + m + x1 + x2 + x3 + x4 + x5 + x6) = True := by simp; omega
theorem ltk6 {a k m x1 x2 x3 x4 x5 x6 : Nat} (h : k < m) : (a + k < a + m + x1 + x2 + x3 + x4 + x5 + x6) = True := by simp; omega
theorem ltz7 {a m x1 x2 x3 x4 x5 x6 x7 : Nat} (h : 0 < m) : (a < a + m + x1 + x2 + x3 + x4 + x5 + x6 + x7) = True := by simp; omega
theorem ltk7 {a k m x1 x2 x3 x4 x5 x6 x7 : Nat} (h : k < m) : (a + k < a + m + x1 + x2 + x3 + x4 + x5 + x6 + x7) = True := by simp; omega
theorem ltz8 {a m x1 x2 x3 x4 x5 x6 x7 x8 : Nat} (h : 0 < m) : (a < a + m + x1 + x2 + x3 + x4 + x5 + x6 + x7 + x8) = True := by simp; omega
theorem ltk8 {a k m x1 x2 x3 x4 x5 x6 x7 x8 : Nat} (h : k < m) : (a + k < a + m + x1 + x2 + x3 + x4 + x5 + x6 + x7 + x8) = True := by simp; omega
theorem ltz9 {a m x1 x2 x3 x4 x5 x6 x7 x8 x9 : Nat} (h : 0 < m) : (a < a + m + x1 + x2 + x3 + x4 + x5 + x6 + x7 + x8 + x9) = True := by simp; omega
theorem ltk9 {a k m x1 x2 x3 x4 x5 x6 x7 x8 x9 : Nat} (h : k < m) : (a + k < a + m + x1 + x2 + x3 + x4 + x5 + x6 + x7 + x8 + x9) = True := by simp; omega
theorem ltz10 {a m x1 x2 x3 x4 x5 x6 x7 x8 x9 x10 : Nat} (h : 0 < m) : (a < a + m + x1 + x2 + x3 + x4 + x5 + x6 + x7 + x8 + x9 + x10) = True := by simp; omega
theorem ltk10 {a k m x1 x2 x3 x4 x5 x6 x7 x8 x9 x10 : Nat} (h : k < m) : (a + k < a + m + x1 + x2 + x3 + x4 + x5 + x6 + x7 + x8 + x9 + x10) = True := by simp; omega
theorem ltz11 {a m x1 x2 x3 x4 x5 x6 x7 x8 x9 x10 x11 : Nat} (h : 0 < m) : (a < a + m + x1 + x2 + x3 + x4 + x5 + x6 + x7 + x8 + x9 + x10 + x11) = True := by simp; omega
theorem ltk11 {a k m x1 x2 x3 x4 x5 x6 x7 x8 x9 x10 x11 : Nat} (h : k < m) : (a + k < a + m + x1 + x2 + x3 + x4 + x5 + x6 + x7 + x8 + x9 + x10 + x11) = True := by simp; omega
theorem ltz12 {a m x1 x2 x3 x4 x5 x6 x7 x8 x9 x10 x11 x12 : Nat} (h : 0 < m) : (a < a + m + x1 + x2 + x3 + x4 + x5 + x6 + x7 + x8 + x9 + x10 + x11 + x12) = True := by simp; omega
theorem ltk12 {a k m x1 x2 x3 x4 x5 x6 x7 x8 x9 x10 x11 x12 : Nat} (h : k < m) : (a + k < a + m + x1 + x2 + x3 + x4 + x5 + x6 + x7 + x8 + x9 + x10 + x11 + x12) = True := by simp; omega
theorem cell_gr (hn : n < w.heap.size) : (Sort.grow w os).cell? ⟨n, i, none⟩ = w.cell? ⟨n, i, none⟩ := cell?_grow w os ⟨n, i, none⟩ hn
theorem frozen_gr (hn : n < w.heap.size) : (Sort.grow w os).frozen? ⟨n, i, none⟩ = w.frozen? ⟨n, i, none⟩ := frozen?_grow w os ⟨n, i, none⟩ hn
theorem setCell_gr (hn : n < w.heap.size) : (Sort.grow w os).setCell ⟨n, i, none⟩ v = Sort.grow (w.setCell ⟨n, i, none⟩ v) os := by
 simp only [World.setCell, Sort.grow, modify_append_left _ _ _ _ hn]
theorem setCell_dr (a : Addr) : (w.drewN n).setCell a v = (w.setCell a v).drewN n := rfl
theorem size_gr : (Sort.grow w os).heap.size = w.heap.size + os.size := size_grow w os
end
theorem sA : type_of% (And.intro @ltz0 (And.intro @ltk0 (And.intro @ltz1 (And.intro @ltk1 (And.intro @ltz2 (And.intro @ltk2 (And.intro @ltz3 (And.intro @ltk3 (And.intro @ltz4 (And.intro @ltk4 (And.intro @ltz5 (And.intro @ltk5 (And.intro @ltz6 (And.intro @ltk6 (And.intro @ltz7 (And.intro @ltk7 (And.intro @ltz8 (And.intro @ltk8 (And.intro @ltz9 (And.intro @ltk9 (And.intro @ltz10 (And.intro @ltk10 (And.intro @ltz11 (And.intro @ltk11 (And.intro @ltz12 (And.intro @ltk12 (And.intro @cell_gr (And.intro @frozen_gr (And.intro @setCell_gr (And.intro @setCell_dr (And.intro @size_gr @tape_grow))))))))))))))))))))))))))))))) := ⟨@ltz0, @ltk0, @ltz1, @ltk1, @ltz2, @ltk2, @ltz3, @ltk3, @ltz4, @ltk4, @ltz5, @ltk5, @ltz6, @ltk6, @ltz7, @ltk7, @ltz8, @ltk8, @ltz9, @ltk9, @ltz10, @ltk10, @ltz11, @ltk11, @ltz12, @ltk12, @cell_gr, @frozen_gr, @setCell_gr, @setCell_dr, @size_gr, @tape_grow⟩
noncomputable def rowV (K : Nat) (w : World) (n o : Nat) : Option Value := ((List.range K).mapM fun i => w.cell? ⟨n, o + i, none⟩).map fun l => .agg l.toArray
def stOk (K : Nat) (w : World) (n : Nat) : Bool := match w.heap[n]? with | some (.cells c _ (0, 0)) => c.size == K | _ => false
noncomputable def ldV (t : TypeId) (a : Addr) : Sem Value := loadVar t a
noncomputable def stV (t : TypeId) (a : Addr) (v : Value) : Sem Unit := storeVar t a v
def ones (l : List Value) : Bool := l.all Value.oneCell'
section
variable (l : List Value)
theorem ones_nil : ones [] = true := rfl
theorem ones_int (k : IntKind) (x : Int) : ones (.int k x :: l) = ones l := rfl
theorem ones_bool (x : Bool) : ones (.bool x :: l) = ones l := rfl
theorem ones_string (x : ByteArray) : ones (.string x :: l) = ones l := rfl
theorem ones_slice (a : Option Addr) (n c : Nat) : ones (.slice a n c :: l) = ones l := rfl
theorem ones_pointer (a : Option Addr) : ones (.pointer a :: l) = ones l := rfl
theorem ones_func (f : Fn) (x y : Array Value) : ones (.func f x y :: l) = ones l := rfl
theorem ones_iface (t : TypeId) (v : Value) : ones (.iface t v :: l) = ones l := rfl
end
noncomputable def slowL (t : TypeId) (n o : Nat) (w : World) : Result Value := (loadVar t ⟨n, o, none⟩).run Tryz.prog w
noncomputable def slowS (t : TypeId) (n : Nat) (v : Value) (w : World) : Result Unit := (storeVar t ⟨n, 0, none⟩ v).run Tryz.prog w
theorem mapM_some {α β : Type} {f : α → Option β} : ∀ {l : List α} {m : List β}, l.mapM f = some m → m.length = l.length ∧ ∀ (i : Nat) (x : α), l[i]? = some x → m[i]? = f x
 | [], m, h => by simp at h; subst h; simp
 | a :: l, m, h => by
   rw [List.mapM_cons] at h
   cases hf : f a with
   | none => simp [hf] at h
   | some b =>
     cases hl : l.mapM f with
     | none => simp [hf, hl] at h
     | some r =>
       simp [hf, hl] at h
       subst h
       obtain ⟨h1, h2⟩ := mapM_some hl
       refine ⟨by simp [h1], fun i x hx => ?_⟩
       cases i with
       | zero => simp at hx; subst hx; simp [hf]
       | succ i => simpa using h2 i x (by simpa using hx)
theorem mapM_of {α β : Type} {f : α → Option β} : ∀ {l : List α} {m : List β}, m.length = l.length → (∀ (i : Nat) (x : α), l[i]? = some x → m[i]? = f x) → l.mapM f = some m
 | [], m, h, _ => by simp at h; subst h; simp
 | a :: l, [], h, _ => by simp at h
 | a :: l, b :: m, h, hf => by
   have h0 : f a = some b := by have := hf 0 a rfl; simpa using this.symm
   have ih := mapM_of (l := l) (m := m) (by simpa using h) (fun i x hx => by have := hf (i + 1) x (by simpa using hx); simpa using this)
   rw [List.mapM_cons, h0, ih]
   rfl
theorem gO {α : Type _} {l : List α} {i : Nat} {a : α} : l[i]? = some a → ∃ h : i < l.length, l[i] = a := List.getElem?_eq_some_iff.1
theorem run_ldV {t K : Nat} (hA : ∀ w, (isAgg t).run Tryz.prog w = .ok true w) (hS : ∀ w, (sizeOf t).run Tryz.prog w = .ok K w) (n o : Nat) (w : World) :
 (ldV t ⟨n, o, none⟩).run Tryz.prog w = match rowV K w n o with | some v => .ok v w | none => slowL t n o w := by
 unfold rowV
 cases hm : (List.range K).mapM fun i => w.cell? ⟨n, o + i, none⟩ with
 | none => rfl
 | some l =>
   obtain ⟨h1, h2⟩ := mapM_some hm
   have hl := run_loadCells_list (P := Tryz.prog) w ⟨n, o, none⟩ l (fun j v hv => by
    have hj : j < K := by have := (gO hv).1; rw [h1] at this; simpa using this
    have hadd : (⟨n, o, none⟩ : Addr).add j = ⟨n, o + j, none⟩ := by unfold Addr.add; split <;> simp_all
    rw [hadd, ← h2 j j (by simp [hj]), hv])
   have h1' : l.length = K := by simpa using h1
   rw [h1'] at hl
   simp only [ldV, loadVar, Sem.run_bind, hA, hS, Result.andThen_ok, if_true, hl, Sem.run_pure, Option.map_some]
theorem run_stV {t K : Nat} (hS : ∀ w, (sizeOf t).run Tryz.prog w = .ok K w) (n : Nat) (w : World) (vs : Array Value) :
 (stV t ⟨n, 0, none⟩ (.agg vs)).run Tryz.prog w = if stOk K w n = true ∧ vs.size = K ∧ ones vs.toList = true then .ok () (w.setRow n vs) else slowS t n (.agg vs) w := by
 split
 ·rename_i h
  obtain ⟨h1, h2, h3⟩ := h
  unfold stOk at h1
  split at h1
  ·rename_i c t' hb
   have hc : c.size = K := by simpa using h1
   have := run_storeCells_from (P := Tryz.prog) n t' vs.toList 0 c w hb (by simp [hc, h2]) (fun v hv => List.all_eq_true.1 h3 v hv)
   simp only [stV, storeVar, Sem.run_bind, hS, Result.andThen_ok, Value.cells, h2, ne_eq, not_true_eq_false, if_false, this]
   simp
  ·cases h1
 ·rfl
section
variable (K : Nat) (w : World) (cs : Array Value) (t : TypeId) (n i q : Nat) (o : Obj) (os : Array Obj) (vs : Array Value)
theorem rowV_at (hn : n = w.heap.size) (h : cs.size = K) : rowV K (w.alloc (.cells cs t)) n 0 = some (.agg cs) := by
 subst hn h
 unfold rowV
 rw [mapM_of (m := cs.toList) (by simp) (fun j x hx => ?_)]
 ·simp
 ·have hj : j < cs.size := by have := (gO hx).1; simpa using this
  rw [List.getElem?_range hj] at hx
  obtain rfl := Option.some.inj hx
  simp
theorem cell_past (hn : n < w.heap.size) : (w.alloc o).cell? ⟨n, i, none⟩ = w.cell? ⟨n, i, none⟩ := World.cell?_alloc_lt (w := w) (o := o) (a := ⟨n, i, none⟩) hn
theorem rowV_past (hn : n < w.heap.size) : rowV K (w.alloc o) n i = rowV K w n i := by unfold rowV; simp only [cell_past w n _ o hn]
theorem rowV_gr (hn : n < w.heap.size) : rowV K (Sort.grow w os) n i = rowV K w n i := by unfold rowV; simp only [cell_gr w os n _ hn]
theorem rowV_dr : rowV K (w.drewN q) n i = rowV K w n i := rfl
theorem rowV_dr1 : rowV K w.drew n i = rowV K w n i := rfl
theorem stOk_at (hn : n = w.heap.size) (h : cs.size = K) : stOk K (w.alloc (.cells cs t)) n = true := by
 subst hn h
 have : (w.alloc (.cells cs t)).heap[w.heap.size]? = some (.cells cs t) := by show (w.heap.push _)[w.heap.size]? = _; simp
 unfold stOk; rw [this]; simp
theorem heap_past (hn : n < w.heap.size) : (w.alloc o).heap[n]? = w.heap[n]? := Below.heap_alloc w o n hn
theorem stOk_past (hn : n < w.heap.size) : stOk K (w.alloc o) n = stOk K w n := by unfold stOk; rw [heap_past w n o hn]
theorem stOk_gr (hn : n < w.heap.size) : stOk K (Sort.grow w os) n = stOk K w n := by unfold stOk; rw [heap_grow_old w os hn]
theorem stOk_dr : stOk K (w.drewN q) n = stOk K w n := rfl
theorem stOk_dr1 : stOk K w.drew n = stOk K w n := rfl
theorem setRow_at (hn : n = w.heap.size) : (w.alloc (.cells cs t)).setRow n vs = w.alloc (.cells vs t) := by
 subst hn
 unfold World.setRow
 show ({ w.alloc (.cells cs t) with heap := (w.heap.push (.cells cs t)).modify w.heap.size _ } : World) = { w with heap := w.heap.push _ }
 rw [World.mk.injEq]
 refine ⟨?_, rfl, rfl, rfl, rfl⟩
 apply Array.ext_getElem?
 intro k
 rw [Array.getElem?_modify, Array.getElem?_push, Array.getElem?_push]
 by_cases hk : k = w.heap.size
 ·simp [hk]
 ·simp [hk, Ne.symm hk]
theorem setRow_past (hn : n < w.heap.size) : (w.alloc o).setRow n vs = (w.setRow n vs).alloc o := by
 unfold World.setRow
 show ({ w.alloc o with heap := (w.heap.push o).modify n _ } : World) = { w with heap := (w.heap.modify n _).push o }
 rw [World.mk.injEq]
 refine ⟨?_, rfl, rfl, rfl, rfl⟩
 rw [← Array.append_singleton, ← Array.append_singleton]
 exact modify_append_left _ _ _ _ hn
theorem setRow_gr (hn : n < w.heap.size) : (Sort.grow w os).setRow n vs = Sort.grow (w.setRow n vs) os := by
 simp only [World.setRow, Sort.grow, modify_append_left _ _ _ _ hn]
theorem setRow_dr : (w.drewN q).setRow n vs = (w.setRow n vs).drewN q := rfl
theorem setRow_dr1 : w.drew.setRow n vs = (w.setRow n vs).drew := rfl
end
section
variable (K : Nat) (w : World) (n i q : Nat) (os : Array Obj) (v : Value) (vs : Array Value) (hn : n < w.heap.size)
include hn
theorem cell_gd : (Sort.grow (w.drewN q) os).cell? ⟨n, i, none⟩ = w.cell? ⟨n, i, none⟩ := cell_gr _ _ _ _ hn
theorem frozen_gd : (Sort.grow (w.drewN q) os).frozen? ⟨n, i, none⟩ = w.frozen? ⟨n, i, none⟩ := frozen_gr _ _ _ _ hn
theorem rowV_gd : rowV K (Sort.grow (w.drewN q) os) n i = rowV K w n i := rowV_gr _ _ _ _ _ hn
theorem stOk_gd : stOk K (Sort.grow (w.drewN q) os) n = stOk K w n := stOk_gr _ _ _ _ hn
theorem setRow_gd : (Sort.grow (w.drewN q) os).setRow n vs = Sort.grow ((w.setRow n vs).drewN q) os := setRow_gr _ _ _ _ hn
theorem setCell_gd : (Sort.grow (w.drewN q) os).setCell ⟨n, i, none⟩ v = Sort.grow ((w.setCell ⟨n, i, none⟩ v).drewN q) os := setCell_gr _ _ _ _ _ hn
end
theorem sG : type_of% (And.intro @cell_gd (And.intro @frozen_gd (And.intro @rowV_gd (And.intro @stOk_gd (And.intro @setRow_gd @setCell_gd))))) := ⟨@cell_gd, @frozen_gd, @rowV_gd, @stOk_gd, @setRow_gd, @setCell_gd⟩
theorem ld66 (a : Addr) : loadVar 66 a = ldV 66 a := rfl
theorem ld51 (a : Addr) : loadVar 51 a = ldV 51 a := rfl
theorem st66 (a : Addr) (v : Value) : storeVar 66 a v = stV 66 a v := rfl
theorem st51 (a : Addr) (v : Value) : storeVar 51 a v = stV 51 a v := rfl
theorem run_ld66 (n o : Nat) (w : World) : (ldV 66 ⟨n, o, none⟩).run Tryz.prog w = match rowV 15 w n o with | some v => .ok v w | none => slowL 66 n o w := run_ldV Tryz.isAgg66 Tryz.sizeOf66 n o w
theorem run_ld51 (n o : Nat) (w : World) : (ldV 51 ⟨n, o, none⟩).run Tryz.prog w = match rowV 8 w n o with | some v => .ok v w | none => slowL 51 n o w := run_ldV Tryz.isAgg51 Tryz.sizeOf51 n o w
theorem run_st66 (n : Nat) (w : World) (vs : Array Value) : (stV 66 ⟨n, 0, none⟩ (.agg vs)).run Tryz.prog w = if stOk 15 w n = true ∧ vs.size = 15 ∧ ones vs.toList = true then .ok () (w.setRow n vs) else slowS 66 n (.agg vs) w := run_stV Tryz.sizeOf66 n w vs
theorem run_st51 (n : Nat) (w : World) (vs : Array Value) : (stV 51 ⟨n, 0, none⟩ (.agg vs)).run Tryz.prog w = if stOk 8 w n = true ∧ vs.size = 8 ∧ ones vs.toList = true then .ok () (w.setRow n vs) else slowS 51 n (.agg vs) w := run_stV Tryz.sizeOf51 n w vs
theorem sB : type_of% (And.intro @run_ld66 (And.intro @run_ld51 (And.intro @run_st66 (And.intro @run_st51 (And.intro @rowV_at (And.intro @rowV_past (And.intro @rowV_gr (And.intro @rowV_dr (And.intro @rowV_dr1 (And.intro @stOk_at (And.intro @stOk_past (And.intro @stOk_gr (And.intro @stOk_dr (And.intro @stOk_dr1 (And.intro @setRow_at (And.intro @setRow_past (And.intro @setRow_gr (And.intro @setRow_dr (And.intro @setRow_dr1 (And.intro @ones_nil (And.intro @ones_int (And.intro @ones_bool (And.intro @ones_string (And.intro @ones_slice (And.intro @ones_pointer (And.intro @ones_func @ones_iface)))))))))))))))))))))))))) := ⟨@run_ld66, @run_ld51, @run_st66, @run_st51, @rowV_at, @rowV_past, @rowV_gr, @rowV_dr, @rowV_dr1, @stOk_at, @stOk_past, @stOk_gr, @stOk_dr, @stOk_dr1, @setRow_at, @setRow_past, @setRow_gr, @setRow_dr, @setRow_dr1, @ones_nil, @ones_int, @ones_bool, @ones_string, @ones_slice, @ones_pointer, @ones_func, @ones_iface⟩
theorem res_cell {t K : Nat} (hA : ∀ w, (isAgg t).run Tryz.prog w = .ok true w) (hS : ∀ w, (sizeOf t).run Tryz.prog w = .ok K w) {fn : Func} {p : Tmp} (h : fn.results = #[.cell p t]) {tmps : Array Value} {w : World} {n : Nat} {v : Value}
 (hp : tmps.getD p undef = .pointer (some ⟨n, 0, none⟩)) (hv : rowV K w n 0 = some v) : (results fn tmps).run Tryz.prog w = .ok v w := by
 have hl := run_ldV hA hS n 0 w
 rw [hv] at hl
 have hp' : tmps[p]?.getD undef = .pointer (some ⟨n, 0, none⟩) := by simpa using hp
 simp only [ldV] at hl
 simp [results, h, hp', asAddr, hl]
theorem res66 {fn : Func} {p : Tmp} (h : fn.results = #[.cell p 66]) {tmps : Array Value} {w : World} {n : Nat} {v : Value}
 (hp : tmps.getD p undef = .pointer (some ⟨n, 0, none⟩)) (hv : rowV 15 w n 0 = some v) : (results fn tmps).run Tryz.prog w = .ok v w := res_cell Tryz.isAgg66 Tryz.sizeOf66 h hp hv
theorem res64 {fn : Func} {p : Tmp} (h : fn.results = #[.cell p 64]) {tmps : Array Value} {w : World} {n : Nat} {v : Value}
 (hp : tmps.getD p undef = .pointer (some ⟨n, 0, none⟩)) (hv : rowV 2 w n 0 = some v) : (results fn tmps).run Tryz.prog w = .ok v w := res_cell Tryz.isAgg64 Tryz.sizeOf64 h hp hv
theorem res51 {fn : Func} {p : Tmp} (h : fn.results = #[.cell p 51]) {tmps : Array Value} {w : World} {n : Nat} {v : Value}
 (hp : tmps.getD p undef = .pointer (some ⟨n, 0, none⟩)) (hv : rowV 8 w n 0 = some v) : (results fn tmps).run Tryz.prog w = .ok v w := res_cell Tryz.isAgg51 Tryz.sizeOf51 h hp hv
theorem rowV_cell {K : Nat} {w : World} {n o : Nat} {cs : Array Value} (h : rowV K w n o = some (.agg cs)) : ∀ j v, cs[j]? = some v → w.cell? ⟨n, o + j, none⟩ = some v := by
 unfold rowV at h
 cases hm : (List.range K).mapM fun i => w.cell? ⟨n, o + i, none⟩ with
 | none => rw [hm] at h; simp at h
 | some l =>
   rw [hm] at h
   simp only [Option.map_some, Option.some.injEq, Value.agg.injEq] at h
   subst h
   obtain ⟨h1, h2⟩ := mapM_some hm
   intro j v hv
   have hv' : l[j]? = some v := by simpa using hv
   have hj : j < K := by have := (gO hv').1; rw [h1] at this; simpa using this
   rw [← h2 j j (by simp [hj]), hv']
theorem rowV_of {K : Nat} {w : World} {n o : Nat} {cs : Array Value} (hs : cs.size = K) (h : ∀ j v, cs[j]? = some v → w.cell? ⟨n, o + j, none⟩ = some v) : rowV K w n o = some (.agg cs) := by
 subst hs
 unfold rowV
 rw [mapM_of (m := cs.toList) (by simp) (fun j x hx => ?_)]
 ·simp
 ·have hj : j < cs.size := by have := (gO hx).1; simpa using this
  rw [List.getElem?_range hj] at hx
  obtain rfl := Option.some.inj hx
  rw [h j cs[j] (Array.getElem?_eq_getElem hj)]
  simp
theorem rowV_mono {K : Nat} {w w' : World} (hg : Gr w w') {n o : Nat} {cs : Array Value} (h : rowV K w n o = some (.agg cs)) (hs : cs.size = K) : rowV K w' n o = some (.agg cs) :=
 rowV_of hs fun j v hv => hg.cell (rowV_cell h j v hv)
theorem gE : type_of% @List.getElem?_eq_getElem := @List.getElem?_eq_getElem
theorem block_of_rowV {K : Nat} {w : World} {n o : Nat} {v : Value} (h : rowV K w n o = some v) (hK : 0 < K) : n < w.heap.size := by
 unfold rowV at h
 cases hm : (List.range K).mapM fun i => w.cell? ⟨n, o + i, none⟩ with
 | none => rw [hm] at h; simp at h
 | some l =>
   obtain ⟨h1, h2⟩ := mapM_some hm
   have hl : 0 < l.length := by rw [h1]; simpa using hK
   have h3 := h2 0 0 (by simp [hK])
   rw [gE hl] at h3
   exact lcc w ⟨n, o + 0, none⟩ h3.symm
end Go.Proofs.OGW
namespace Go.Proofs.OGW
open Go.RowKit Go.Sort
attribute [local go_sem] sA sB
attribute [local go_sem ↓] ld66 ld51 st66 st51
theorem ret_int {k : IntKind} {a b : Int} (h : a = b) : Ending.returned (.int k a) = .returned (.int k b) := by rw [h]
theorem hiD : type_of% @Lib.hid := @Lib.hid
set_option maxHeartbeats 400000 in
theorem gcd_call (a b : Int) (ha : -4611686018427387904 ≤ a) (ha' : a ≤ 4611686018427387904) (hb : 0 ≤ b) (hb' : b ≤ 4611686018427387904) :
 Ans 142 #[.int .i64 a, .int .i64 b] (.int .i64 (Int.gcd a b)) := by
 intro w
 obtain ⟨m, rfl⟩ := Int.eq_ofNat_of_zero_le hb
 have key : ∀ x y : Nat, 0 < x → Nat.gcd (y % x) x = Nat.gcd x y := fun x y _ => by rw [← Nat.gcd_rec]
 by_cases h : a < 0
 ·have hd : decide (a < 0) = true := by simpa using h
  go_enter Tryz.func142, Tryz.ntmps142
  go_wp2
  go_loop [0, 1] (fun s t => ∃ x y : Nat, s = .int .i64 x ∧ t = .int .i64 y ∧ x ≤ 4611686018427387904 ∧ y ≤ 4611686018427387904 ∧ Nat.gcd x y = Int.gcd a m) (fun s _ => (intOf s).toNat)
  case atStart => exact ⟨a.natAbs, m, by rw [show ((a.natAbs : Nat) : Int) = -a by omega], rfl, by omega, by omega, rfl⟩
  case round =>
   obtain ⟨x, y, rfl, rfl, hx, hy, hg⟩ := hrel
   have HG := hiD hg
   clear hg
   by_cases hx0 : 0 < x
   ·go_wp2
    go_round
    case rel => exact ⟨y % x, x, by go_num, rfl, by have := Nat.mod_lt y hx0; omega, hx, by rw [key x y hx0]; exact HG.out⟩
    case measure => simp [intOf]; have := Nat.mod_lt y hx0; omega
   ·obtain rfl : x = 0 := by omega
    go_wp2
    go_ret
    exact ⟨ret_int (by have := HG.out; rw [Nat.gcd_zero_left] at this; rw [this]), Gr.refl _⟩
 ·have hd : decide (a < 0) = false := by simpa using h
  obtain ⟨n, rfl⟩ := Int.eq_ofNat_of_zero_le (show 0 ≤ a by omega)
  go_enter Tryz.func142, Tryz.ntmps142
  go_wp2
  go_loop [0, 1] (fun s t => ∃ x y : Nat, s = .int .i64 x ∧ t = .int .i64 y ∧ x ≤ 4611686018427387904 ∧ y ≤ 4611686018427387904 ∧ Nat.gcd x y = Int.gcd n m) (fun s _ => (intOf s).toNat)
  case atStart => exact ⟨n, m, rfl, rfl, by omega, by omega, rfl⟩
  case round =>
   obtain ⟨x, y, rfl, rfl, hx, hy, hg⟩ := hrel
   have HG := hiD hg
   clear hg
   by_cases hx0 : 0 < x
   ·go_wp2
    go_round
    case rel => exact ⟨y % x, x, by go_num, rfl, by have := Nat.mod_lt y hx0; omega, hx, by rw [key x y hx0]; exact HG.out⟩
    case measure => simp [intOf]; have := Nat.mod_lt y hx0; omega
   ·obtain rfl : x = 0 := by omega
    go_wp2
    go_ret
    exact ⟨ret_int (by have := HG.out; rw [Nat.gcd_zero_left] at this; rw [this]; rfl), Gr.refl _⟩
abbrev fv (q : Rat) : Value := .agg #[.int .i64 q.num, .int .i64 (q.den : Int)]
attribute [local go_sem] fv
theorem tdiv_of_dvd {a g : Int} (h : g ∣ a) : a.tdiv g = a / g := Int.tdiv_eq_ediv_of_dvd h
set_option maxHeartbeats 400000 in
theorem frac_call (n : Int) (d : Nat) (hd : 0 < d) (hn : -4611686018427387904 ≤ n) (hn' : n ≤ 4611686018427387904) (hd' : d ≤ 4611686018427387904) :
 Ans 83 #[.int .i64 n, .int .i64 (d : Int)] (fv (mkRat n d)) := by
 intro w
 have h1 : (mkRat n d).num = n / (Int.gcd n d : Int) := by rw [Rat.num_mkRat, if_neg (by omega), Nat.gcd_comm]; rfl
 have h2 : ((mkRat n d).den : Int) = (d : Int) / (Int.gcd n d : Int) := by rw [Rat.den_mkRat, if_neg (by omega), Nat.gcd_comm]; rfl
 have hg0 : 0 < Int.gcd n d := Int.gcd_pos_of_ne_zero_right n (by omega)
 have e1 : n.tdiv (Int.gcd n d : Int) = n / (Int.gcd n d : Int) := Int.tdiv_eq_ediv_of_dvd (Int.gcd_dvd_left ..)
 have b1 : -4611686018427387904 ≤ n / (Int.gcd n d : Int) ∧ n / (Int.gcd n d : Int) ≤ 4611686018427387904 := by
  have hp : (0 : Int) < (Int.gcd n d : Int) := by omega
  constructor
  ·rw [Int.le_ediv_iff_mul_le hp]
   generalize (Int.gcd n d : Int) = g at hp
   have : -4611686018427387904 * g ≤ -4611686018427387904 * 1 := Int.mul_le_mul_of_nonpos_left (by omega) (by omega)
   omega
  ·refine Int.le_trans (Int.ediv_le_ediv hp hn') (Int.ediv_le_self _ (by omega))
 have b2 : 0 ≤ (d : Int) / (Int.gcd n d : Int) ∧ (d : Int) / (Int.gcd n d : Int) ≤ 4611686018427387904 := ⟨Int.ediv_nonneg (by omega) (by omega), Int.le_trans (Int.ediv_le_self _ (by omega)) (by omega)⟩
 have hc := gcd_call n d hn hn' (by omega) (by omega)
 show Calls _ _ _ _ fun e w' => e = .returned (.agg #[.int .i64 (mkRat n d).num, .int .i64 ((mkRat n d).den : Int)]) ∧ _
 rw [h1, h2]
 clear h1 h2
 generalize hgg : Int.gcd n d = g at *
 clear hgg
 have hne : ¬ g = 0 := by omega
 have q1 : IntKind.i64.wrap (n.tdiv ↑g) = n / ↑g := by rw [e1]; exact IntWalk.i64_in _ ⟨by omega, by omega⟩
 have q2 : IntKind.i64.wrap ((d : Int).tdiv ↑g) = ↑d / ↑g := IntWalk.i64_quo _ _ ⟨by omega, by omega, by omega⟩
 clear e1
 go_enter Tryz.func83, Tryz.ntmps83
 go_wp2_with (go_at_call 142; refine (hc.at _).mono ?_; rintro e w' ⟨rfl, q, os, rfl⟩)
 refine tail_grown 7 (by kernel_rfl) ?_
 simp only [List.take_succ_cons, List.take_zero, List.drop_succ_cons, List.drop_zero]
 repeat (quiet_step (fail))
 refine wpQuiet_nil ?_
 rintro w' ⟨⟨nq, osq⟩, rfl⟩
 go_wp2
 refine bodyPost_ret (res64 Tryz.results83 rfl ?_) rfl ⟨rfl, ?_⟩
 ·go_simp
 ·exact gw
set_option maxHeartbeats 400000 in
theorem whole_call (n : Int) : Ans 45 #[.int .i64 n] (fv (n : Rat)) := by
 intro w
 show Calls _ _ _ _ fun e w' => e = .returned (.agg #[.int .i64 n, .int .i64 1]) ∧ _
 go_enter Tryz.func45, Tryz.ntmps45
 go_wp2
 refine bodyPost_ret (res64 Tryz.results45 rfl ?_) rfl ⟨rfl, ?_⟩
 ·go_simp
 ·exact gw
set_option maxHeartbeats 400000 in
theorem add_call (a b : Rat) (h1 : -2305843009213693952 ≤ a.num * b.den) (h2 : a.num * b.den ≤ 2305843009213693952) (h3 : -2305843009213693952 ≤ b.num * a.den) (h4 : b.num * a.den ≤ 2305843009213693952)
 (h5 : a.den * b.den ≤ 4611686018427387904) : Ans 82 #[fv a, fv b] (fv (a + b)) := by
 intro w
 have h6 : (a.den : Int) * b.den ≤ 4611686018427387904 := by have := Int.ofNat_le.2 h5; simpa using this
 have h7 : (0 : Int) < (a.den : Int) * b.den := Int.mul_pos (by have := a.den_pos; omega) (by have := b.den_pos; omega)
 have hf := frac_call (a.num * b.den + b.num * a.den) (a.den * b.den) (Nat.mul_pos a.den_pos b.den_pos) (by omega) (by omega) h5
 rw [← Rat.add_def', Int.natCast_mul] at hf
 show Calls _ _ #[.agg #[.int .i64 a.num, .int .i64 (a.den : Int)], .agg #[.int .i64 b.num, .int .i64 (b.den : Int)]] _ _
 go_enter Tryz.func82, Tryz.ntmps82
 go_wp2_with (go_at_call 83; refine (hf.at _).mono ?_; rintro e w' ⟨rfl, q, os, rfl⟩)
 refine bodyPost_ret (res64 Tryz.results82 rfl ?_) rfl ⟨rfl, ?_⟩
 ·go_simp
 ·exact gw
set_option maxHeartbeats 400000 in
theorem sub_call (a b : Rat) (h1 : -2305843009213693952 ≤ a.num * b.den) (h2 : a.num * b.den ≤ 2305843009213693952) (h3 : -2305843009213693952 ≤ b.num * a.den) (h4 : b.num * a.den ≤ 2305843009213693952)
 (h5 : a.den * b.den ≤ 4611686018427387904) (h6 : -4611686018427387904 ≤ b.num) (h7 : b.num ≤ 4611686018427387904) : Ans 85 #[fv a, fv b] (fv (a - b)) := by
 intro w
 have hf := add_call a (-b) h1 h2 (by rw [Rat.neg_num, Int.neg_mul]; omega) (by rw [Rat.neg_num, Int.neg_mul]; omega) h5
 rw [← Rat.sub_eq_add_neg] at hf
 have e : fv (-b) = .agg #[.int .i64 (-b.num), .int .i64 (b.den : Int)] := rfl
 rw [e] at hf
 clear e h1 h2 h3 h4 h5
 show Calls _ _ #[.agg #[.int .i64 a.num, .int .i64 (a.den : Int)], .agg #[.int .i64 b.num, .int .i64 (b.den : Int)]] _ _
 go_enter Tryz.func85, Tryz.ntmps85
 go_wp2_with (go_at_call 82; refine (hf.at _).mono ?_; rintro e w' ⟨rfl, q, os, rfl⟩)
 refine bodyPost_ret (res64 Tryz.results85 rfl ?_) rfl ⟨rfl, ?_⟩
 ·go_simp
 ·exact gw
theorem times_eq (a : Rat) (n : Int) (m : Nat) (hm : 0 < m) : mkRat (a.num * n) (a.den * m) = a * n / m := by
 rw [Rat.mkRat_eq_div]
 have h1 : a = (a.num : Rat) / (a.den : Rat) := by rw [← Rat.mkRat_eq_div, Rat.mkRat_self]
 have h2 : (a.den : Rat) ≠ 0 := by have := a.den_pos; intro h; rw [Rat.natCast_eq_zero_iff] at h; omega
 have h3 : (m : Rat) ≠ 0 := by intro h; rw [Rat.natCast_eq_zero_iff] at h; omega
 conv => rhs; rw [h1]
 rw [Rat.intCast_mul, Rat.natCast_mul]
 grind
set_option maxHeartbeats 400000 in
theorem times_call (a : Rat) (n : Int) (m : Nat) (hm : 0 < m) (h1 : -4611686018427387904 ≤ a.num * n) (h2 : a.num * n ≤ 4611686018427387904) (h5 : a.den * m ≤ 4611686018427387904) :
 Ans 39 #[fv a, .int .i64 n, .int .i64 m] (fv (a * n / m)) := by
 intro w
 have h6 : (a.den : Int) * m ≤ 4611686018427387904 := by have := Int.ofNat_le.2 h5; simpa using this
 have h7 : (0 : Int) < (a.den : Int) * m := Int.mul_pos (by have := a.den_pos; omega) (by omega)
 have hf := frac_call (a.num * n) (a.den * m) (Nat.mul_pos a.den_pos hm) (by omega) (by omega) h5
 rw [times_eq a n m hm, Int.natCast_mul] at hf
 show Calls _ _ #[.agg #[.int .i64 a.num, .int .i64 (a.den : Int)], .int .i64 n, .int .i64 m] _ _
 go_enter Tryz.func39, Tryz.ntmps39
 go_wp2_with (go_at_call 83; refine (hf.at _).mono ?_; rintro e w' ⟨rfl, q, os, rfl⟩)
 refine bodyPost_ret (res64 Tryz.results39 rfl ?_) rfl ⟨rfl, ?_⟩
 ·go_simp
 ·exact gw
end Go.Proofs.OGW
