import Derived.LoopIn
import Derived.LoopNIn
import Derived.OwnWalkIn
import Derived.RangeFuncBound
import Derived.RangeFuncCalls
import Derived.RangeFuncFrom
import Derived.RangeFuncLeaves
import Derived.RangeFuncNested
import Derived.TacticsInMore
import Derived.Test.YtmejcmollpbcfaaGreatP22
set_option linter.all false
namespace Go.Proofs.OGW
open Go.RowKit Go.Sort OG Go.Shelf Go.PlainAid
attribute [local go_sem] sA fv sB sG sC Nat.zero_add Oper.semAt_some
attribute [local go_sem ↓] ld66 ld51 st66 st51
def IChain (ns : List Nd) (e : Nat) : Nat → List Nat → Prop
 | k, [] => k = e
 | k, x :: xs => x = k ∧ k < e ∧ IChain ns e (endN ns k) xs
theorem IChain.le {ns : List Nd} {e : Nat} : ∀ {xs : List Nat} {k : Nat}, IChain ns e k xs → k ≤ e
 | [], _, h => Nat.le_of_eq h
 | _ :: _, _, h => Nat.le_of_lt h.2.1
theorem gr_of_below {w W : World} (h : Below w.heap.size w W) : Gr w { W with drawn := w.drawn + W.drawn } :=
 ⟨⟨h.os, h.tape, h.output, h.size, h.block⟩, Nat.le_add_right _ _⟩
theorem NdRow.below {w W : World} {A : Option Addr} {xs : List Nd} (h : NdRow w A xs) (hb : Below w.heap.size w W) : NdRow W A xs := by
 have := h.gr (gr_of_below hb)
 exact this
theorem gr_grownBy {w W : World} (h : Gr w W) : w.grownBy W none := ⟨h.b.os, h.b.tape, h.b.output, h.b.size, fun k hk _ => h.b.block k hk⟩
def KidsKp (n₀ bn : Nat) (W W' : World) : Prop := Below n₀ W W' ∧ W'.heap[bn]? = W.heap[bn]?
set_option maxHeartbeats 400000 in
theorem kids_make (A : Option Addr) (len c : Nat) (i : Int) (w : World) :
 Calls Tryz.prog 149 #[.slice A len c, .int .i64 i] w fun e w' => e = .returned (.func (.func 177) #[] #[.pointer (some ⟨w.heap.size, 0, none⟩), .pointer (some ⟨w.heap.size + 1, 0, none⟩)]) ∧
  w' = (w.alloc (.cells #[.slice A len c] 31)).alloc (.cells #[.int .i64 i] 3) := by
 go_enter Tryz.func149, Tryz.ntmps149
 exact tZ49
set_option maxRecDepth 100000 in
set_option maxHeartbeats 2000000 in
theorem kids1_in (n : Nat) (hn : 1 ≤ n) (l bn bi n₀ : Nat) (W0 : World) (A : Option Addr) (len c : Nat) (ns : List Nd) (hr : NdRow W0 A ns) (hl : ns.length = len) (hlen : len ≤ 1000000) (h00 : W0.heap.size ≤ n₀)
 (k0 : Nat) (hk0 : k0 < len) (xs : List Nat) (hc : IChain ns (endN ns k0) (k0 + 1) xs) (J Jx : List Nat → World → Prop) (W : World)
 (hJ : AbidesFrom W.heap.size J)
 (hY : ∀ pre x W, J pre W → pre.length < xs.length → x < len → YieldAt Fence.wide (n - 1) Tryz.prog l #[.int .i64 (x : Nat)] W fun e W' =>
   (e = .returned (.bool true) ∧ J (pre ++ [x]) W' ∧ KidsKp n₀ bn W W') ∨ (e = .returned (.bool false) ∧ Jx (pre ++ [x]) W'))
 (hB : Below W0.heap.size W0 W) (hbn : W.cell? ⟨bn, 0, none⟩ = some (.slice A len c)) (hbi : W.cell? ⟨bi, 0, none⟩ = some (.int .i64 (k0 : Nat))) (h0 : J [] W) :
 CallsIn Fence.wide n Tryz.prog 177 #[.func (.yield l) #[] #[], .pointer (some ⟨bn, 0, none⟩), .pointer (some ⟨bi, 0, none⟩)] W fun e W' => (∃ v, e = .returned v) ∧
  ((∃ ys, ys = xs ∧ J ys W') ∨ (∃ pre, pre <+: xs ∧ Jx pre W')) := by
 have hbl := lcc W _ hbn
 have hil := lcc W _ hbi
 have hd : decide ((0 : Int) ≤ ((k0 : Nat) : Int)) = true := by simp
 have HR := hiD hr
 have HC := hiD hc
 have HJ := hiD hJ
 have HY := hiD hY
 have HB := hiD hB
 have HJ0 := hiD h0
 clear hr hc hJ hY hB h0
 refine callsIn_of_wp Tryz.func177 rfl trivial ?_ rfl
 simp only [Tryz.ntmps177, List.size_toArray, List.length_cons, List.length_nil, Nat.reduceAdd, Nat.reduceSub, Array.replicate_succ, Array.replicate_zero, List.push_toArray, List.append_toArray, List.nil_append, List.cons_append]
 refine wpIn_wide.2 ?_
 go_wp2
 refine wp_region_quiet_grown mixed (by kernel_rfl) ?_
 repeat (go_big_quiet_step (fail))
 refine wpQuiet_nil ?_
 rintro w' ⟨⟨nq, osq⟩, rfl⟩
 go_wp2
 have he := endN_le (ns := ns) (i := k0) (by rw [hl]; exact hk0)
 rw [hl] at he
 have HEQ : ∀ k, k < len → ∀ w1, Gr W w1 → Calls Tryz.prog 178 #[.slice A len c, .int .i64 (k : Nat)] w1 fun e w' => e = .returned (.int .i64 (endN ns k : Nat)) ∧ Gr w1 w' := fun k hk w1 h1 =>
  end_call A c ns k w1 ((HR.out.below HB.out).gr h1) len hl hlen hk
 have HEQ0 := hiD (HEQ k0 hk0)
 clear HEQ
 refine wp_region_quiet_grown mixed (by kernel_rfl) ?_
 repeat (go_big_quiet_step ((go_at_call 178; exact quiet_of (fun w1 h1 => HEQ0.out w1 (Gr.trans gw h1)))))
 refine wpQuiet_nil ?_
 rintro w' ⟨⟨nq, osq⟩, rfl⟩
 go_wp2
 go_loopw [6] (fun kk wr => ∃ (pre rest : List Nat) (k : Nat), kk = .int .i64 k ∧ k ≤ endN ns k0 ∧ Hid (xs = pre ++ rest) ∧ Hid (IChain ns (endN ns k0) k rest) ∧ Hid (J pre wr) ∧ Hid (Below W0.heap.size W0 wr) ∧
  wr.cell? ⟨bn, 0, none⟩ = some (.slice A len c)) (fun kk _ => endN ns k0 - (intOf kk).toNat)
 case atStart =>
  have key : ∀ W1, Gr W W1 → ∃ (pre rest : List Nat) (k : Nat), Value.int .i64 (((k0 : Nat) : Int) + 1) = .int .i64 k ∧ k ≤ endN ns k0 ∧ Hid (xs = pre ++ rest) ∧ Hid (IChain ns (endN ns k0) k rest) ∧ Hid (J pre W1) ∧ Hid (Below W0.heap.size W0 W1) ∧
   W1.cell? ⟨bn, 0, none⟩ = some (.slice A len c) := fun W1 hg =>
   ⟨[], xs, k0 + 1, by go_num, by omega, rfl, HC.out, HJ.out _ _ _ none HJ0.out (gr_grownBy hg) (fun r e => by cases e), HB.out.trans (hg.b.mono HB.out.size), hg.cell hbn⟩
  exact key _ ((Gr.of_eq _ _).trans (Gr.of_eq _ _))
 case round =>
  obtain ⟨pre, rest, k, rfl, hke, HX, HC2, HJS, HBS, hcn⟩ := hrel
  cases rest with
  | nil =>
    obtain rfl : k = endN ns k0 := HC2.out
    have hd2 : decide (((endN ns k0 : Nat) : Int) < ((endN ns k0 : Nat) : Int)) = false := by simp
    go_wp2
    go_end0
    exact ⟨⟨_, rfl⟩, .inl ⟨pre, by have := HX.out; simpa using this.symm, HJS.out⟩⟩
  | cons x rest =>
    obtain ⟨rfl, hlt, hC3⟩ := HC2.out
    have hd2 : decide (((x : Nat) : Int) < ((endN ns k0 : Nat) : Int)) = true := by simp; omega
    obtain ⟨fn, tmps, assign, body, hy, hR⟩ := HY.out pre x wr HJS.out (by rw [HX.out]; simp) (by omega)
    have HC3 := hiD hC3
    clear hC3
    refine (wpIn_wide (n := n)).1 ?_
    gi_wp2
    refine hR.mono ?_
    rintro e W3 (⟨rfl, hJ3, hk3, hk4⟩ | ⟨rfl, hJx3⟩)
    ·have hB3 : Below W0.heap.size W0 W3 := HBS.out.trans (hk3.mono h00)
     have hc3 : W3.cell? ⟨bn, 0, none⟩ = some (.slice A len c) := (World.cell?_of_block (w := wr) (a := ⟨bn, 0, none⟩) hk4).trans hcn
     have HE := hiD (end_call A c ns x W3 (HR.out.below hB3) len hl hlen (by omega))
     have HB3 := hiD hB3
     have HJ3 := hiD hJ3
     have hxe := endN_le (ns := ns) (i := x) (by rw [hl]; omega)
     clear hB3 hk3 hk4 hJ3 hR
     gi_wp2_with (refine ⟨trivial, ?_⟩; gi_at_call 178; refine (callsIn_wide.2 HE.out).mono ?_; rintro e' W4 ⟨rfl, hg4⟩; have HG4 := hiD hg4; have hc4 := hg4.cell hc3; clear hg4)
     go_roundw
     case rel => exact ⟨pre ++ [x], rest, endN ns x, rfl, HC3.out.le, (by show xs = _; rw [HX.out]; simp), HC3.out, HJ.out _ _ _ none HJ3.out (gr_grownBy HG4.out) (fun r e => by cases e), HB3.out.trans (HG4.out.b.mono HB3.out.size), hc4⟩
     case measure => simp [intOf]; omega
    ·gi_wp2
     refine bodyPost_ret (results_none rfl _ _ _) rfl ?_
     exact ⟨⟨_, rfl⟩, .inr ⟨pre ++ [x], ⟨rest, by rw [HX.out]; simp⟩, hJx3⟩⟩
end Go.Proofs.OGW
namespace Go.Proofs.OGW
open Go.RowKit Go.Sort OG Go.Shelf Go.PlainAid
theorem kidsKp_t {n₀ bn : Nat} {A B C : World} (h : KidsKp n₀ bn A B) (k : KidsKp n₀ bn B C) : KidsKp n₀ bn A C := ⟨h.1.trans k.1, k.2.trans h.2⟩
theorem kidsKp_b {n₀ bn : Nat} {w : World} (h0 : n₀ ≤ w.heap.size) (hb : bn < w.heap.size) (W : World) (l : Nat) (o o' : Obj) (hl : w.heap.size ≤ l) (h : W.heap[l]? = some o) (h1 : o.isCells = false) (h2 : o.isWalk = false) : KidsKp n₀ bn W (W.putObj l o') :=
 ⟨belowK_b (w := w) h0 W l o o' hl h h1 h2, World.putObj_heap_other (by omega)⟩
theorem kids_stops (n : Nat) (hn : 1 ≤ n) (bn bi n₀ : Nat) (W0 : World) (A : Option Addr) (len c : Nat) (ns : List Nd) (hr : NdRow W0 A ns) (hl : ns.length = len) (hlen : len ≤ 1000000) (h00 : W0.heap.size ≤ n₀)
 (k0 : Nat) (hk0 : k0 < len) (xs : List Nat) (hc : IChain ns (endN ns k0) (k0 + 1) xs) (w : World) (hB : Below W0.heap.size W0 w) (hbn : w.cell? ⟨bn, 0, none⟩ = some (.slice A len c)) (hbi : w.cell? ⟨bi, 0, none⟩ = some (.int .i64 (k0 : Nat))) :
 SeqStopsK Fence.wide n Tryz.prog 177 #[.pointer (some ⟨bn, 0, none⟩), .pointer (some ⟨bi, 0, none⟩)] (fun x : { x : Nat // x < len } => #[Value.int .i64 (x.1 : Nat)]) (KidsKp n₀ bn) (fun ys => ys.map (·.1) = xs) (fun pre => pre.map (·.1) <+: xs) xs.length w := fun l J Jx W hW hJ hJx hY h0 =>
 (kids1_in n hn l bn bi n₀ W0 A len c ns hr hl hlen h00 k0 hk0 xs hc (fun pre W => ∃ q : List { x : Nat // x < len }, q.map (·.1) = pre ∧ J q W) (fun pre W => ∃ q : List { x : Nat // x < len }, q.map (·.1) = pre ∧ Jx q W) W
   (fun s A B row hs hg hr => by obtain ⟨q, e, hq⟩ := hs; exact ⟨q, e, hJ q A B row hq hg hr⟩)
   (fun pre x W hJ' hlt hx => by
     obtain ⟨q, e, hq⟩ := hJ'
     refine (hY q ⟨x, hx⟩ W hq (by have := congrArg List.length e; simp at this; omega)).mono ?_
     rintro e' W' (⟨h1, h2, h3⟩ | ⟨h1, h2⟩)
     ·exact .inl ⟨h1, ⟨_, by rw [List.map_append, e]; rfl, h2⟩, h3⟩
     ·exact .inr ⟨h1, ⟨_, by rw [List.map_append, e]; rfl, h2⟩⟩)
   (hB.trans (hW.mono hB.size))
   ((hW.cell (p := ⟨bn, 0, none⟩) (lcc w _ hbn)).trans hbn) ((hW.cell (p := ⟨bi, 0, none⟩) (lcc w _ hbi)).trans hbi) ⟨[], rfl, h0⟩).mono (by
     rintro e W' ⟨hv, (⟨ys, h1, q, h2, h3⟩ | ⟨pre, h1, q, h2, h3⟩)⟩
     ·exact ⟨hv, .inl ⟨q, h2.trans h1, h3⟩⟩
     ·exact ⟨hv, .inr ⟨q, by subst h2; exact h1, h3⟩⟩)
theorem endN_gt (ns : List Nd) (i : Nat) : i < endN ns i := by unfold endN; split <;> omega
theorem IChain.len {ns : List Nd} {e : Nat} : ∀ {xs : List Nat} {k : Nat}, IChain ns e k xs → xs.length ≤ e - k
 | [], _, _ => Nat.zero_le _
 | x :: xs, k, h => by
   have := IChain.len h.2.2
   have := endN_gt ns k
   have := h.2.1
   rw [List.length_cons]
   omega
end Go.Proofs.OGW
namespace Go.Proofs.OGW
open Go.RowKit Go.Sort OG Go.Shelf Go.PlainAid
attribute [local go_sem] sA fv sB sG sC Nat.zero_add Oper.semAt_some
attribute [local go_sem ↓] ld66 ld51 st66 st51
def kAt (ns : List Nd) (x : Nat) : Int := ((ns[x]?).map fun n => n.lf.kind).getD 0
theorem kAt_of {ns : List Nd} {x : Nat} {n : Nd} (h : ns[x]? = some n) : kAt ns x = n.lf.kind := by unfold kAt; rw [h]; rfl
theorem cnt_snoc (k : Int) (l : List Int) (a : Int) : cnt k (l ++ [a]) = cnt k l + if a = k then 1 else 0 := by
 unfold cnt
 rw [List.filter_append, List.length_append]
 by_cases h : a = k <;> simp [h]
theorem cnt_le (k : Int) (l : List Int) : cnt k l ≤ l.length := List.length_filter_le _ _
structure CB (W : World) (b : Nat) (v : Value) : Prop where
 c : W.cell? ⟨b, 0, none⟩ = some v
 f : W.frozen? ⟨b, 0, none⟩ = false
theorem CB.kept {W W' : World} {b : Nat} {v : Value} {row : Option Nat} (h : CB W b v) (hg : W.grownBy W' row) (hr : ∀ r, row = some r → ∃ o : Obj, W.heap[r]? = some o ∧ o.isCells = false) : CB W' b v :=
 ⟨cell_kept h.c hg hr, (frozen_kept h.c hg hr).trans h.f⟩
theorem CB.set {W : World} {b : Nat} {v : Value} (h : CB W b v) (u : Value) : CB (W.setCell ⟨b, 0, none⟩ u) b u :=
 ⟨World.cell?_setCell_same' _ _ _ (by rw [h.c]; rfl), by rw [World.frozen?_setCell]; exact h.f⟩
theorem CB.other {W : World} {b b' : Nat} {v : Value} (h : CB W b v) (u : Value) (hb : b ≠ b') : CB (W.setCell ⟨b', 0, none⟩ u) b v :=
 ⟨(World.cell?_setCell_other _ _ _ _ (by simp [hb])).trans h.c, by rw [World.frozen?_setCell]; exact h.f⟩
structure FamC (w : World) (A : Option Addr) (len c : Nat) (nd : Nd) (m3 m4 m5 m6 m7 : Nat) (W : World) : Prop where
 bel : Below w.heap.size w W
 c0 : CB W w.heap.size (.slice A len c)
 c1 : CB W (w.heap.size + 1) (.bool false)
 c2 : W.cell? ⟨w.heap.size + 2, 0, none⟩ = some (.int .i64 nd.lf.kind)
 c2' : W.cell? ⟨w.heap.size + 2, 1, none⟩ = some (.int .i64 nd.depth)
 c3 : CB W (w.heap.size + 3) (.int .i64 (m3 : Nat))
 c4 : CB W (w.heap.size + 4) (.int .i64 (m4 : Nat))
 c5 : CB W (w.heap.size + 5) (.int .i64 (m5 : Nat))
 c6 : CB W (w.heap.size + 6) (.int .i64 (m6 : Nat))
 c7 : CB W (w.heap.size + 7) (.int .i64 (m7 : Nat))
theorem FamC.set {w : World} {A : Option Addr} {len c : Nat} {nd : Nd} {m3 m4 m5 m6 m7 : Nat} {W : World} (h : FamC w A len c nd m3 m4 m5 m6 m7 W) (i : Nat) (n : Int) :
 (i = 3 → ∀ k : Nat, n = k → FamC w A len c nd k m4 m5 m6 m7 (W.setCell ⟨w.heap.size + i, 0, none⟩ (.int .i64 n))) ∧
 (i = 4 → ∀ k : Nat, n = k → FamC w A len c nd m3 k m5 m6 m7 (W.setCell ⟨w.heap.size + i, 0, none⟩ (.int .i64 n))) ∧
 (i = 5 → ∀ k : Nat, n = k → FamC w A len c nd m3 m4 k m6 m7 (W.setCell ⟨w.heap.size + i, 0, none⟩ (.int .i64 n))) ∧
 (i = 6 → ∀ k : Nat, n = k → FamC w A len c nd m3 m4 m5 k m7 (W.setCell ⟨w.heap.size + i, 0, none⟩ (.int .i64 n))) ∧
 (i = 7 → ∀ k : Nat, n = k → FamC w A len c nd m3 m4 m5 m6 k (W.setCell ⟨w.heap.size + i, 0, none⟩ (.int .i64 n))) := by
 have hb := h.bel.setCell (p := ⟨w.heap.size + i, 0, none⟩) (Nat.le_add_right _ _) (.int .i64 n)
 have o : ∀ {b : Nat} {v : Value}, CB W b v → b ≠ w.heap.size + i → CB (W.setCell ⟨w.heap.size + i, 0, none⟩ (.int .i64 n)) b v := fun hc hne => hc.other _ hne
 have o2 : ∀ {j : Nat} {v : Value}, W.cell? ⟨w.heap.size + 2, j, none⟩ = some v → 2 ≠ i → (W.setCell ⟨w.heap.size + i, 0, none⟩ (.int .i64 n)).cell? ⟨w.heap.size + 2, j, none⟩ = some v :=
  fun hc hne => (World.cell?_setCell_other _ _ _ _ (by simp; try omega)).trans hc
 refine ⟨?_, ?_, ?_, ?_, ?_⟩ <;> (intro hi k hk; subst hi; subst hk)
 ·exact ⟨hb, o h.c0 (by omega), o h.c1 (by omega), o2 h.c2 (by omega), o2 h.c2' (by omega), h.c3.set _, o h.c4 (by omega), o h.c5 (by omega), o h.c6 (by omega), o h.c7 (by omega)⟩
 ·exact ⟨hb, o h.c0 (by omega), o h.c1 (by omega), o2 h.c2 (by omega), o2 h.c2' (by omega), o h.c3 (by omega), h.c4.set _, o h.c5 (by omega), o h.c6 (by omega), o h.c7 (by omega)⟩
 ·exact ⟨hb, o h.c0 (by omega), o h.c1 (by omega), o2 h.c2 (by omega), o2 h.c2' (by omega), o h.c3 (by omega), o h.c4 (by omega), h.c5.set _, o h.c6 (by omega), o h.c7 (by omega)⟩
 ·exact ⟨hb, o h.c0 (by omega), o h.c1 (by omega), o2 h.c2 (by omega), o2 h.c2' (by omega), o h.c3 (by omega), o h.c4 (by omega), o h.c5 (by omega), h.c6.set _, o h.c7 (by omega)⟩
 ·exact ⟨hb, o h.c0 (by omega), o h.c1 (by omega), o2 h.c2 (by omega), o2 h.c2' (by omega), o h.c3 (by omega), o h.c4 (by omega), o h.c5 (by omega), o h.c6 (by omega), h.c7.set _⟩
theorem FamC.kept {w : World} {A : Option Addr} {len c : Nat} {nd : Nd} {m3 m4 m5 m6 m7 : Nat} {W W' : World} {row : Option Nat} (h : FamC w A len c nd m3 m4 m5 m6 m7 W) (hg : W.grownBy W' row)
 (hr : ∀ r, row = some r → w.heap.size ≤ r ∧ ∃ o : Obj, W.heap[r]? = some o ∧ o.isCells = false) : FamC w A len c nd m3 m4 m5 m6 m7 W' :=
 have k := fun r e => (hr r e).2
 ⟨h.bel.grown hg h.bel.size (fun r e => (hr r e).1), h.c0.kept hg k, h.c1.kept hg k, cell_kept h.c2 hg k, cell_kept h.c2' hg k, h.c3.kept hg k, h.c4.kept hg k, h.c5.kept hg k, h.c6.kept hg k, h.c7.kept hg k⟩
def FamI (w : World) (A : Option Addr) (len c : Nat) (nd : Nd) (kk : List Int) (W : World) : Prop :=
 FamC w A len c nd kk.length (cnt 1 kk) (cnt 2 kk) (cnt 3 kk) (cnt 7 kk) W ∧ (nd.lf.kind = 5 ∨ cnt 7 kk = 0)
structure FamX (w : World) (nd : Nd) (kk : List Int) (W : World) : Prop where
 bel : Below w.heap.size w W
 c1 : CB W (w.heap.size + 1) (.bool false)
 no : nd.lf.kind ≠ 5 ∧ cnt 7 kk ≠ 0
theorem FamX.kept {w : World} {nd : Nd} {kk : List Int} {W W' : World} {row : Option Nat} (h : FamX w nd kk W) (hg : W.grownBy W' row)
 (hr : ∀ r, row = some r → w.heap.size ≤ r ∧ ∃ o : Obj, W.heap[r]? = some o ∧ o.isCells = false) : FamX w nd kk W' :=
 ⟨h.bel.grown hg h.bel.size (fun r e => (hr r e).1), h.c1.kept hg (fun r e => (hr r e).2), h.no⟩
theorem FamI.of {w : World} {A : Option Addr} {len c : Nat} {nd : Nd} {kk : List Int} {kd : Int} {m3 m4 m5 m6 m7 : Nat} {W : World} (h3 : m3 = kk.length) (h4 : m4 = cnt 1 kk) (h5 : m5 = cnt 2 kk) (h6 : m6 = cnt 3 kk) (h7 : m7 = cnt 7 kk)
 (hC : FamC w A len c nd (m3 + 1) (m4 + if kd = 1 then 1 else 0) (m5 + if kd = 2 then 1 else 0) (m6 + if kd = 3 then 1 else 0) (m7 + if kd = 7 then 1 else 0) W) (hno : nd.lf.kind = 5 ∨ (m7 = 0 ∧ kd ≠ 7)) : FamI w A len c nd (kk ++ [kd]) W := by
 subst h3 h4 h5 h6 h7
 unfold FamI
 rw [List.length_append, cnt_snoc, cnt_snoc, cnt_snoc, cnt_snoc]
 refine ⟨hC, hno.imp id fun h => ?_⟩
 rw [if_neg h.2, h.1]
theorem kp_set {n₀ bn : Nat} {W : World} {b : Nat} (h : n₀ ≤ b) (hb : bn ≠ b) (v : Value) : KidsKp n₀ bn W (W.setCell ⟨b, 0, none⟩ v) :=
 ⟨(Below.refl _ _).setCell (p := ⟨b, 0, none⟩) h v, Below.heap_setCell _ _ _ _ hb⟩
def kv (ns : List Nd) {len : Nat} (pre : List { x : Nat // x < len }) : List Int := pre.map fun x => kAt ns x.1
theorem kv_snoc (ns : List Nd) {len : Nat} (pre : List { x : Nat // x < len }) (x : { x : Nat // x < len }) : kv ns (pre ++ [x]) = kv ns pre ++ [kAt ns x.1] := by simp [kv]
theorem kv_len (ns : List Nd) {len : Nat} (pre : List { x : Nat // x < len }) : (kv ns pre).length = pre.length := by simp [kv]
theorem kv_map (ns : List Nd) {len : Nat} (pre : List { x : Nat // x < len }) : kv ns pre = (pre.map (·.1)).map (kAt ns) := by simp [kv]
theorem fam_end {w W : World} {D : Nat} (b : Bool) (h1 : CB W (w.heap.size + 1) (.bool false)) (hB : Below w.heap.size w W) (hK : W.heap[D]? = some (.deferred (some []))) (hD : w.heap.size ≤ D) :
 (W.setCell ⟨w.heap.size + 1, 0, none⟩ (.bool b)).heap[D]? = some (.deferred (some [])) ∧ ((W.setCell ⟨w.heap.size + 1, 0, none⟩ (.bool b)).putObj D (.deferred none)).cell? ⟨w.heap.size + 1, 0, none⟩ = some (.bool b) ∧
   Below w.heap.size w ((W.setCell ⟨w.heap.size + 1, 0, none⟩ (.bool b)).putObj D (.deferred none)) := by
 have hK' := (KeepsOthers.setCell W ⟨w.heap.size + 1, 0, none⟩ (.bool b)).same D _ hK rfl
 have hb2 := hB.setCell (p := ⟨w.heap.size + 1, 0, none⟩) (Nat.le_add_right _ _) (.bool b)
 exact ⟨hK', cell_kept (h1.set (.bool b)).c (grownBy_putObj' _ D (.deferred none)) (fun r e => by cases e; exact ⟨_, hK', rfl⟩), hb2.grown (grownBy_putObj' _ D (.deferred none)) hb2.size (fun k e => by cases e; exact hD)⟩
theorem fam_fin {w W : World} {D : Nat} {fb b : Bool} {t : Array Value} (ht : t.getD 6 undef = .pointer (some ⟨w.heap.size + 1, 0, none⟩)) (hb : fb = b) (h1 : CB W (w.heap.size + 1) (.bool false)) (hB : Below w.heap.size w W)
 (hK : W.heap[D]? = some (.deferred (some []))) (hD : w.heap.size ≤ D) :
 bodyPostM Fence.wide 9 Tryz.prog Tryz.f103 (fun e w' => e = .returned (.bool fb) ∧ Below w.heap.size w w') Exit.ret { tmps := t, defers := [{ target := .collected D, args := #[] }] } (W.setCell ⟨w.heap.size + 1, 0, none⟩ (.bool b)) := by
 obtain ⟨e1, e2, e3⟩ := fam_end b h1 hB hK hD
 have ht' : t[6]?.getD undef = .pointer (some ⟨w.heap.size + 1, 0, none⟩) := by simpa using ht
 refine ⟨by simp, .inl ⟨_, _, rfl, run_takeDeferred e1, .bool b, ?_, by rw [hb], e3⟩⟩
 simp [results, Tryz.f103, go_sem, ht', e2]
def famN (kind d pk : Int) (m3 m4 m5 m6 m7 : Nat) : Bool :=
 if kind = 2 then decide ((2 : Int) ≤ (m3 : Int)) && (decide ((m3 : Int) ≤ 6) && ((m5 : Int) == 0))
 else if kind = 3 then decide ((2 : Int) ≤ (m3 : Int)) && (decide ((m3 : Int) ≤ 6) && ((m6 : Int) == 0))
 else if kind = 4 then ((m3 : Int) == 2) && ((m4 : Int) == 2)
 else if kind = 5 then decide ((1 : Int) ≤ (m3 : Int)) && (decide ((m3 : Int) ≤ 6) && (((m5 : Int) == 0) && ((d == 0) && (((m7 : Int) == 0) || ((m3 : Int) == 1)))))
 else if kind = 7 then decide ((2 : Int) ≤ (m3 : Int)) && (decide ((m3 : Int) ≤ 6) && (((m5 : Int) == 0) && ((d == 0) || (pk == 5))))
 else true
theorem famP_famN {kind d pk : Int} {kk : List Int} (h : kind = 5 ∨ cnt 7 kk = 0) : famP kind d kk pk = famN kind d pk kk.length (cnt 1 kk) (cnt 2 kk) (cnt 3 kk) (cnt 7 kk) := by
 unfold famP famN
 have e0 : ∀ n : Nat, ((n : Int) == 0) = decide (n = 0) := fun n => by rw [Bool.eq_iff_iff]; simp
 have e1 : ∀ n : Nat, ((n : Int) == 1) = decide (n = 1) := fun n => by rw [Bool.eq_iff_iff]; simp; omega
 have e2 : ∀ n : Nat, ((n : Int) == 2) = decide (n = 2) := fun n => by rw [Bool.eq_iff_iff]; simp; omega
 have e3 : ∀ n : Nat, decide ((2 : Int) ≤ (n : Int)) = decide (2 ≤ n) := fun n => by rw [Bool.eq_iff_iff]; simp; omega
 have e4 : ∀ n : Nat, decide ((1 : Int) ≤ (n : Int)) = decide (1 ≤ n) := fun n => by rw [Bool.eq_iff_iff]; simp; omega
 have e5 : ∀ n : Nat, decide ((n : Int) ≤ 6) = decide (n ≤ 6) := fun n => by rw [Bool.eq_iff_iff]; simp; omega
 have e6 : ∀ x y : Int, (x == y) = decide (x = y) := fun x y => by rw [Bool.eq_iff_iff]; simp
 rw [if_neg (by rintro ⟨h1, h2⟩; rcases h with h | h; exact h1 h; exact h2 h)]
 simp only [e0, e1, e2, e3, e4, e5, e6 d, e6 pk, Bool.and_assoc]
set_option maxRecDepth 100000 in
set_option maxHeartbeats 8000000 in
theorem family_call (A : Option Addr) (len c : Nat) (ns : List Nd) (w : World) (hr : NdRow w A ns) (hl : ns.length = len) (hlen : len ≤ 1000000) (k0 : Nat) (nd : Nd) (hnd : ns[k0]? = some nd) (pk : Int) (xs : List Nat) (hc : IChain ns (endN ns k0) (k0 + 1) xs) :
 Calls Tryz.prog 103 #[.slice A len c, .int .i64 (k0 : Nat), .int .i64 pk] w fun e w' => e = .returned (.bool (famP nd.lf.kind nd.depth (xs.map (kAt ns)) pk)) ∧ Below w.heap.size w w' := by
 have hk0 : k0 < len := by have := (gO hnd).1; omega
 have he := endN_le (ns := ns) (i := k0) (by rw [hl]; exact hk0)
 have hxl := hc.len
 rw [hl] at he
 have hxl2 : xs.length ≤ 1000000 := by omega
 obtain ⟨blk, off, rfl, hat⟩ := hr.2 k0 nd hnd
 have hblk : blk < w.heap.size := lcc w _ hat.c0
 have HR := hiD hr
 have HL := hiD hl
 have HC := hiD hc
 have HE := hiD hxl
 have HND := hiD hnd
 have tk : ((k0 : Nat) : Int).toNat = k0 := by omega
 simp only [NdAt] at hat
 clear hr hl hc hxl hnd he
 obtain ⟨fb, hfb⟩ : ∃ fb, fb = famP nd.lf.kind nd.depth (xs.map (kAt ns)) pk := ⟨_, rfl⟩
 rw [← hfb]
 have HFB := hiD hfb
 clear hfb
 refine (callsIn_wide (n := 9)).1 ?_
 refine callsIn_of_wp_marks Tryz.func103 rfl trivial ?_ rfl
 simp only [Tryz.ntmps103, List.size_toArray, List.length_cons, List.length_nil, Nat.reduceAdd, Nat.reduceSub, Array.replicate_succ, Array.replicate_zero, List.push_toArray, List.append_toArray, List.nil_append, List.cons_append]
 gi_wp2_with (refine ⟨trivial, ?_⟩; gi_at_call 149; refine (callsIn_wide.2 (kids_make (some ⟨blk, off, none⟩) len c k0 _)).mono ?_; rintro e w' ⟨rfl, rfl⟩)
 simp only [Nat.add_assoc, Nat.reduceAdd]
 have h0 : FamI w (some ⟨blk, off, none⟩) len c nd [] ((((((((((w.alloc (.cells #[.slice (some ⟨blk, off, none⟩) len c] 31)).alloc (.cells #[.bool false] 4)).alloc (.cells #[.int .i64 nd.lf.kind, .int .i64 nd.depth, .int .i64 nd.lf.sign, .int .i64 nd.lf.turn, .bool nd.lf.mirror, .int .i64 nd.lf.state, .int .i64 nd.lf.mn, .int .i64 nd.lf.mx] 51)).alloc (.cells #[.int .i64 0] 3)).alloc (.cells #[.int .i64 0] 3)).alloc (.cells #[.int .i64 0] 3)).alloc (.cells #[.int .i64 0] 3)).alloc (.cells #[.int .i64 0] 3)).alloc (.cells #[.slice (some ⟨blk, off, none⟩) len c] 31)).alloc (.cells #[.int .i64 (k0 : Nat)] 3)) := by
  refine ⟨⟨?_, ⟨by go_simp, by go_simp⟩, ⟨by go_simp, by go_simp⟩, by go_simp, by go_simp, ⟨by go_simp, by go_simp⟩, ⟨by go_simp; rfl, by go_simp⟩, ⟨by go_simp; rfl, by go_simp⟩, ⟨by go_simp; rfl, by go_simp⟩, ⟨by go_simp; rfl, by go_simp⟩⟩, .inr rfl⟩
  exact (show Gr w _ from gw).b
 have hs : (((((((((((w.alloc (.cells #[.slice (some ⟨blk, off, none⟩) len c] 31)).alloc (.cells #[.bool false] 4)).alloc (.cells #[.int .i64 nd.lf.kind, .int .i64 nd.depth, .int .i64 nd.lf.sign, .int .i64 nd.lf.turn, .bool nd.lf.mirror, .int .i64 nd.lf.state, .int .i64 nd.lf.mn, .int .i64 nd.lf.mx] 51)).alloc (.cells #[.int .i64 0] 3)).alloc (.cells #[.int .i64 0] 3)).alloc (.cells #[.int .i64 0] 3)).alloc (.cells #[.int .i64 0] 3)).alloc (.cells #[.int .i64 0] 3)).alloc (.cells #[.slice (some ⟨blk, off, none⟩) len c] 31)).alloc (.cells #[.int .i64 (k0 : Nat)] 3))).heap.size = w.heap.size + 10 := by simp
 have b8 : (((((((((((w.alloc (.cells #[.slice (some ⟨blk, off, none⟩) len c] 31)).alloc (.cells #[.bool false] 4)).alloc (.cells #[.int .i64 nd.lf.kind, .int .i64 nd.depth, .int .i64 nd.lf.sign, .int .i64 nd.lf.turn, .bool nd.lf.mirror, .int .i64 nd.lf.state, .int .i64 nd.lf.mn, .int .i64 nd.lf.mx] 51)).alloc (.cells #[.int .i64 0] 3)).alloc (.cells #[.int .i64 0] 3)).alloc (.cells #[.int .i64 0] 3)).alloc (.cells #[.int .i64 0] 3)).alloc (.cells #[.int .i64 0] 3)).alloc (.cells #[.slice (some ⟨blk, off, none⟩) len c] 31)).alloc (.cells #[.int .i64 (k0 : Nat)] 3))).cell? ⟨w.heap.size + 8, 0, none⟩ = some (.slice (some ⟨blk, off, none⟩) len c) := by go_simp
 have b9 : (((((((((((w.alloc (.cells #[.slice (some ⟨blk, off, none⟩) len c] 31)).alloc (.cells #[.bool false] 4)).alloc (.cells #[.int .i64 nd.lf.kind, .int .i64 nd.depth, .int .i64 nd.lf.sign, .int .i64 nd.lf.turn, .bool nd.lf.mirror, .int .i64 nd.lf.state, .int .i64 nd.lf.mn, .int .i64 nd.lf.mx] 51)).alloc (.cells #[.int .i64 0] 3)).alloc (.cells #[.int .i64 0] 3)).alloc (.cells #[.int .i64 0] 3)).alloc (.cells #[.int .i64 0] 3)).alloc (.cells #[.int .i64 0] 3)).alloc (.cells #[.slice (some ⟨blk, off, none⟩) len c] 31)).alloc (.cells #[.int .i64 (k0 : Nat)] 3))).cell? ⟨w.heap.size + 9, 0, none⟩ = some (.int .i64 (k0 : Nat)) := by go_simp
 generalize (((((((((w.alloc (.cells #[.slice (some ⟨blk, off, none⟩) len c] 31)).alloc (.cells #[.bool false] 4)).alloc (.cells #[.int .i64 nd.lf.kind, .int .i64 nd.depth, .int .i64 nd.lf.sign, .int .i64 nd.lf.turn, .bool nd.lf.mirror, .int .i64 nd.lf.state, .int .i64 nd.lf.mn, .int .i64 nd.lf.mx] 51)).alloc (.cells #[.int .i64 0] 3)).alloc (.cells #[.int .i64 0] 3)).alloc (.cells #[.int .i64 0] 3)).alloc (.cells #[.int .i64 0] 3)).alloc (.cells #[.int .i64 0] 3)).alloc (.cells #[.slice (some ⟨blk, off, none⟩) len c] 31)).alloc (.cells #[.int .i64 (k0 : Nat)] 3) = W1 at h0 hs b8 b9 ⊢
 refine wpIn_rangeFunc_ownF rfl (by decide) (gf := 177) (lb := #[.pointer (some ⟨w.heap.size + 8, 0, none⟩), .pointer (some ⟨w.heap.size + 9, 0, none⟩)]) rfl trivial (enters_of Tryz.func177 (by kernel_rfl) rfl)
  (kids_stops (9 - 1) (by decide) (w.heap.size + 8) (w.heap.size + 9) w.heap.size w (some ⟨blk, off, none⟩) len c ns HR.out HL.out hlen (Nat.le_refl _) k0 hk0 xs HC.out W1 h0.1.bel b8 b9)
  kidsKp_t (kidsKp_b (w := W1) (by omega) (by omega)) (Below.refl _ _) (fun _ => rfl)
  (fun pre W => FamI w (some ⟨blk, off, none⟩) len c nd (kv ns pre) W)
  (fun cd pre W => cd = .ret ∧ FamX w nd (kv ns pre) W)
  (fun s A B row hs' hg hr => ⟨hs'.1.kept hg (fun r e => ⟨by have := (hr r e).1; omega, (hr r e).2⟩), hs'.2⟩)
  (fun cd s A B row hs' hg hr => ⟨hs'.1, hs'.2.kept hg (fun r e => ⟨by have := (hr r e).1; omega, (hr r e).2⟩)⟩)
  h0 ?a1 ?assign ?body ?done ?stop
 case assign =>
  intro l x W K hK
  gi_wp2
  exact hK
 case body =>
  rintro l pre x W ⟨hI, hno⟩ hlt
  obtain ⟨n2, hn2⟩ : ∃ n2, ns[x.1]? = some n2 := ⟨_, gE (by rw [HL.out]; exact x.2)⟩
  obtain ⟨xb, xo, ee, hxa⟩ := HR.out.2 x.1 n2 hn2
  obtain ⟨rfl, rfl⟩ : blk = xb ∧ off = xo := by cases ee; exact ⟨rfl, rfl⟩
  have hkx := kAt_of hn2
  obtain ⟨xi, hxi⟩ := x
  simp only at hkx hn2 hxa
  have cx : W.cell? ⟨blk, off + xi * 8, none⟩ = some (.int .i64 n2.lf.kind) := (hI.bel.cell (p := ⟨blk, off + xi * 8, none⟩) hblk).trans hxa.c0
  obtain ⟨kd, hkd⟩ : ∃ kd, kd = n2.lf.kind := ⟨_, rfl⟩
  rw [← hkd] at cx hkx
  obtain ⟨kk, hkk⟩ : ∃ kk, kk = kv ns pre := ⟨_, rfl⟩
  have hkl : kk.length ≤ 1000000 := by rw [hkk, kv_len]; omega
  have hmap : kv ns (pre ++ [⟨xi, hxi⟩]) = kk ++ [kd] := by rw [kv_snoc, hkk, ← hkx]
  have HM := hiD hmap
  rw [← hkk] at hI hno
  clear hkk hmap hkx ee hxa hkd
  have l1 := cnt_le 1 kk
  have l2 := cnt_le 2 kk
  have l3 := cnt_le 3 kk
  have l7 := cnt_le 7 kk
  obtain ⟨m3, h3⟩ : ∃ m, m = kk.length := ⟨_, rfl⟩
  obtain ⟨m4, h4⟩ : ∃ m, m = cnt 1 kk := ⟨_, rfl⟩
  obtain ⟨m5, h5⟩ : ∃ m, m = cnt 2 kk := ⟨_, rfl⟩
  obtain ⟨m6, h6⟩ : ∃ m, m = cnt 3 kk := ⟨_, rfl⟩
  obtain ⟨m7, h7⟩ : ∃ m, m = cnt 7 kk := ⟨_, rfl⟩
  rw [← h3, ← h4, ← h5, ← h6, ← h7] at hI
  rw [← h3] at hkl
  rw [← h4, ← h3] at l1
  rw [← h5, ← h3] at l2
  rw [← h6, ← h3] at l3
  rw [← h7, ← h3] at l7
  have HI := hiD hI
  obtain ⟨_, c0, c1, c2, _, c3, c4, c5, c6, c7⟩ := hI
  have H3 := hiD h3
  have H4 := hiD h4
  have H5 := hiD h5
  have H6 := hiD h6
  have H7 := hiD h7
  have HNO := hiD hno
  have c0c := c0.c
  have c1c := c1.c
  have c1f := c1.f
  have c3c := c3.c
  have c3f := c3.f
  have c4c := c4.c
  have c4f := c4.f
  have c5c := c5.c
  have c5f := c5.f
  have c6c := c6.c
  have c6f := c6.f
  have c7c := c7.c
  have c7f := c7.f
  have hxn : (0 : Int) ≤ (xi : Int) := by omega
  have tx : ((xi : Nat) : Int).toNat = xi := by omega
  clear h3 h4 h5 h6 h7 hno c0 c1 c3 c4 c5 c6 c7 hn2
  have B1 := fun (W' : World) (b : Nat) (v : Value) (hb : w.heap.size ≤ b) => (Below.refl w.heap.size W').setCell (p := ⟨b, 0, none⟩) hb v
  by_cases k1 : kd = 1
  ·subst k1
   gi_wp2
   exact ⟨(KeepsOthers.setCell _ _ _).trans (KeepsOthers.setCell _ _ _), kidsKp_t (kp_set (by omega) (by omega) _) (kp_set (by omega) (by omega) _), by
    show FamI _ _ _ _ _ (kv ns (pre ++ [⟨xi, hxi⟩])) _
    rw [HM.out]
    exact FamI.of H3.out H4.out H5.out H6.out H7.out (((HI.out.set 3 _).1 rfl (m3 + 1) (by simp)).set 4 _ |>.2.1 rfl (m4 + 1) (by simp)) (HNO.out.imp id fun h => ⟨H7.out.trans h, by decide⟩)⟩
  have d1 : (kd == 1) = false := by simpa using k1
  by_cases k2 : kd = 2
  ·subst k2
   gi_wp2
   exact ⟨(KeepsOthers.setCell _ _ _).trans (KeepsOthers.setCell _ _ _), kidsKp_t (kp_set (by omega) (by omega) _) (kp_set (by omega) (by omega) _), by
    show FamI _ _ _ _ _ (kv ns (pre ++ [⟨xi, hxi⟩])) _
    rw [HM.out]
    exact FamI.of H3.out H4.out H5.out H6.out H7.out (((HI.out.set 3 _).1 rfl (m3 + 1) (by simp)).set 5 _ |>.2.2.1 rfl (m5 + 1) (by simp)) (HNO.out.imp id fun h => ⟨H7.out.trans h, by decide⟩)⟩
  have d2 : (kd == 2) = false := by simpa using k2
  by_cases k3 : kd = 3
  ·subst k3
   gi_wp2
   exact ⟨(KeepsOthers.setCell _ _ _).trans (KeepsOthers.setCell _ _ _), kidsKp_t (kp_set (by omega) (by omega) _) (kp_set (by omega) (by omega) _), by
    show FamI _ _ _ _ _ (kv ns (pre ++ [⟨xi, hxi⟩])) _
    rw [HM.out]
    exact FamI.of H3.out H4.out H5.out H6.out H7.out (((HI.out.set 3 _).1 rfl (m3 + 1) (by simp)).set 6 _ |>.2.2.2.1 rfl (m6 + 1) (by simp)) (HNO.out.imp id fun h => ⟨H7.out.trans h, by decide⟩)⟩
  have d3 : (kd == 3) = false := by simpa using k3
  by_cases k7 : kd = 7
  ·subst k7
   by_cases k5 : nd.lf.kind = 5
   ·have d5 : (nd.lf.kind != 5) = false := by simp [k5]
    have K5 := hiD k5
    clear k5
    gi_wp2
    exact ⟨(KeepsOthers.setCell _ _ _).trans (KeepsOthers.setCell _ _ _), kidsKp_t (kp_set (by omega) (by omega) _) (kp_set (by omega) (by omega) _), by
     show FamI _ _ _ _ _ (kv ns (pre ++ [⟨xi, hxi⟩])) _
     rw [HM.out]
     exact FamI.of H3.out H4.out H5.out H6.out H7.out (((HI.out.set 3 _).1 rfl (m3 + 1) (by simp)).set 7 _ |>.2.2.2.2 rfl (m7 + 1) (by simp)) (.inl K5.out)⟩
   ·have d5 : (nd.lf.kind != 5) = true := by simp [k5]
    have K5 := hiD k5
    clear k5
    gi_wp2
    have hC := (((HI.out.set 3 (m3 + 1)).1 rfl (m3 + 1) (by simp)).set 7 (m7 + 1) |>.2.2.2.2 rfl (m7 + 1) (by simp))
    exact ⟨((KeepsOthers.setCell _ _ _).trans (KeepsOthers.setCell _ _ _)).trans (KeepsOthers.setCell _ _ _), rfl, by
     show FamX _ _ (kv ns (pre ++ [⟨xi, hxi⟩])) _
     rw [HM.out]
     exact ⟨hC.bel.trans (B1 _ _ _ (by omega)), hC.c1.set _, K5.out, by rw [cnt_snoc]; simp⟩⟩
  have d7 : (kd == 7) = false := by simpa using k7
  have hn : ¬ kd = 1 ∧ ¬ kd = 2 ∧ ¬ kd = 3 ∧ ¬ kd = 7 := ⟨k1, k2, k3, k7⟩
  have HKN := hiD hn
  clear k1 k2 k3 k7 hn
  gi_wp2
  exact ⟨KeepsOthers.setCell _ _ _, kp_set (by omega) (by omega) _, by
   show FamI _ _ _ _ _ (kv ns (pre ++ [⟨xi, hxi⟩])) _
   rw [HM.out]
   obtain ⟨n1, n2, n3, n7⟩ := HKN.out
   exact FamI.of H3.out H4.out H5.out H6.out H7.out (by rw [if_neg n1, if_neg n2, if_neg n3, if_neg n7]; exact (HI.out.set 3 _).1 rfl (m3 + 1) (by simp)) (HNO.out.imp id fun h => ⟨H7.out.trans h, n7⟩)⟩
 case done =>
  rintro D ys W hD hys ⟨hI, hno⟩ hK
  have hkv : kv ns ys = xs.map (kAt ns) := by rw [kv_map, hys]
  rw [hkv] at hI hno
  have hfn : fb = famN nd.lf.kind nd.depth pk (xs.map (kAt ns)).length (cnt 1 (xs.map (kAt ns))) (cnt 2 (xs.map (kAt ns))) (cnt 3 (xs.map (kAt ns))) (cnt 7 (xs.map (kAt ns))) := HFB.out.trans (famP_famN hno)
  obtain ⟨m3, h3⟩ : ∃ m, m = (xs.map (kAt ns)).length := ⟨_, rfl⟩
  obtain ⟨m4, h4⟩ : ∃ m, m = cnt 1 (xs.map (kAt ns)) := ⟨_, rfl⟩
  obtain ⟨m5, h5⟩ : ∃ m, m = cnt 2 (xs.map (kAt ns)) := ⟨_, rfl⟩
  obtain ⟨m6, h6⟩ : ∃ m, m = cnt 3 (xs.map (kAt ns)) := ⟨_, rfl⟩
  obtain ⟨m7, h7⟩ : ∃ m, m = cnt 7 (xs.map (kAt ns)) := ⟨_, rfl⟩
  rw [← h3, ← h4, ← h5, ← h6, ← h7] at hI hfn
  obtain ⟨hbel, c0, c1, c2, c2', c3, c4, c5, c6, c7⟩ := hI
  obtain ⟨kd, hkd⟩ : ∃ kd, kd = nd.lf.kind := ⟨_, rfl⟩
  obtain ⟨dd, hdd⟩ : ∃ dd, dd = nd.depth := ⟨_, rfl⟩
  rw [← hkd] at c2 hfn
  rw [← hdd] at c2' hfn
  have HFN := hiD hfn
  have HK := hiD hK
  have C1 := hiD c1
  have HBE := hiD hbel
  have c1c := c1.c
  have c1f := c1.f
  have c3c := c3.c
  have c4c := c4.c
  have c5c := c5.c
  have c6c := c6.c
  have c7c := c7.c
  clear h3 h4 h5 h6 h7 hkd hdd hfn hK hno hkv hys c0 c1 c3 c4 c5 c6 c7 hat h0 b8 b9 hbel
  have hD2 : w.heap.size ≤ D := by omega
  clear hs hD
  by_cases k2 : kd = 2
  ·subst k2
   cases x0 : decide ((2 : Int) ≤ (m3 : Int)) <;> cases x1 : decide ((m3 : Int) ≤ 6) <;> cases x2 : ((m5 : Int) == 0)
   all_goals
    gi_wp2
    exact fam_fin rfl (by rw [HFN.out]; simp [famN, x0, x1, x2]) C1.out HBE.out HK.out hD2
  have d2 : (kd == 2) = false := by simpa using k2
  by_cases k3 : kd = 3
  ·subst k3
   cases x0 : decide ((2 : Int) ≤ (m3 : Int)) <;> cases x1 : decide ((m3 : Int) ≤ 6) <;> cases x2 : ((m6 : Int) == 0)
   all_goals
    gi_wp2
    exact fam_fin rfl (by rw [HFN.out]; simp [famN, x0, x1, x2]) C1.out HBE.out HK.out hD2
  have d3 : (kd == 3) = false := by simpa using k3
  by_cases k4 : kd = 4
  ·subst k4
   cases x0 : ((m3 : Int) == 2) <;> cases x1 : ((m4 : Int) == 2)
   all_goals
    gi_wp2
    exact fam_fin rfl (by rw [HFN.out]; simp [famN, x0, x1]) C1.out HBE.out HK.out hD2
  have d4 : (kd == 4) = false := by simpa using k4
  by_cases k5 : kd = 5
  ·subst k5
   cases x0 : decide ((1 : Int) ≤ (m3 : Int)) <;> cases x1 : decide ((m3 : Int) ≤ 6) <;> cases x2 : ((m5 : Int) == 0) <;> cases x3 : (dd == 0) <;> cases x4 : ((m7 : Int) == 0) <;> cases x5 : ((m3 : Int) == 1)
   all_goals
    gi_wp2
    exact fam_fin rfl (by rw [HFN.out]; simp [famN, x0, x1, x2, x3, x4, x5]) C1.out HBE.out HK.out hD2
  have d5 : (kd == 5) = false := by simpa using k5
  by_cases k7 : kd = 7
  ·subst k7
   cases x0 : decide ((2 : Int) ≤ (m3 : Int)) <;> cases x1 : decide ((m3 : Int) ≤ 6) <;> cases x2 : ((m5 : Int) == 0) <;> cases x3 : (dd == 0) <;> cases x4 : (pk == 5)
   all_goals
    gi_wp2
    exact fam_fin rfl (by rw [HFN.out]; simp [famN, x0, x1, x2, x3, x4]) C1.out HBE.out HK.out hD2
  have d7 : (kd == 7) = false := by simpa using k7
  have hn : ¬ kd = 2 ∧ ¬ kd = 3 ∧ ¬ kd = 4 ∧ ¬ kd = 5 ∧ ¬ kd = 7 := ⟨k2, k3, k4, k5, k7⟩
  have HKN := hiD hn
  clear k2 k3 k4 k5 k7 hn
  gi_wp2
  exact fam_fin rfl (by rw [HFN.out]; obtain ⟨n2, n3, n4, n5, n7⟩ := HKN.out; simp [famN, n2, n3, n4, n5, n7]) C1.out HBE.out HK.out hD2
 case stop =>
  rintro D cd pre W hD hpre ⟨rfl, hX⟩ hK
  have hfb : fb = false := by
   rw [HFB.out]
   have h1 : cnt 7 (xs.map (kAt ns)) ≠ 0 := by
    have h2 := hX.no.2
    rw [kv_map] at h2
    obtain ⟨rest, hrest⟩ := hpre
    rw [← hrest, List.map_append]
    unfold cnt at h2 ⊢
    rw [List.filter_append, List.length_append]
    omega
   unfold famP
   rw [if_pos ⟨hX.no.1, h1⟩]
  have c1 := hX.c1
  have hD2 : w.heap.size ≤ D := by omega
  have hc5 := cell_kept c1.c (grownBy_putObj' W D (.deferred none)) (fun r e => by cases e; exact ⟨_, hK, rfl⟩)
  have hb5 := hX.bel.grown (grownBy_putObj' W D (.deferred none)) hX.bel.size (fun k e => by cases e; exact hD2)
  gi_wp2
  refine ⟨by simp, .inl ⟨_, _, rfl, run_takeDeferred hK, .bool false, ?_, by rw [hfb], hb5⟩⟩
  simp [results, Tryz.f103, go_sem, hc5]
end Go.Proofs.OGW
