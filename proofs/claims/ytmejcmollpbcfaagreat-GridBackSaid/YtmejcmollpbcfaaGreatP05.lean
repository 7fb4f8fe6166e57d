import Derived.Laws.CopyRow
import Derived.Shelf.Abstract
import Derived.Test.YtmejcmollpbcfaaGreatP03
import Derived.Test.YtmejcmollpbcfaaGreatP04
set_option linter.all false
namespace Go.Proofs.OGW
open Go.RowKit Go.Sort OG
attribute [local go_sem] sA fv sB sG eqlR neqR eqlP neqP guard66'
attribute [local go_sem ↓] ld66 ld51 st66 st51 eq66 ne66
set_option maxHeartbeats 1000000 in
set_option maxRecDepth 100000 in
theorem equal_call (A B : Option Addr) (c d : Nat) (xs ys : List RBox) (w : World) (hr : BoxRow w A xs) (hs : BoxRow w B ys) :
 Calls Tryz.prog 50 #[.slice A xs.length c, .slice B ys.length d] w fun e w' => e = .returned (.bool (decide (xs = ys))) ∧ Gr w w' := by
 have hb := hr.1
 have hb' := hs.1
 by_cases hl : xs.length = ys.length
 ·have hd : (((xs.length : Nat) : Int) != ((ys.length : Nat) : Int)) = false := by simp [hl]
  have HL := hiD hl
  clear hl
  go_enter Tryz.func50, Tryz.ntmps50
  go_wp2
  go_loopw [13] (fun i wr => ∃ k : Nat, k ≤ xs.length ∧ i = .int .i64 k ∧ Gr w wr ∧ (∀ j, j < k → xs[j]? = ys[j]?)) (fun i _ => xs.length - (intOf i).toNat)
  case atStart => exact ⟨0, by omega, rfl, Gr.refl _, fun j hj => by omega⟩
  case round =>
   obtain ⟨k, hk, rfl, hg, hall⟩ := hrel
   by_cases hlt : k < xs.length
   ·have hlt' : k < ys.length := by have := HL.out; omega
    obtain ⟨blk, off, rfl, hbx⟩ := (hr.gr hg).get hlt
    obtain ⟨blk2, off2, rfl, hby⟩ := (hs.gr hg).get hlt'
    have z1 := block_of_rowV hbx (by decide)
    have z2 := block_of_rowV hby (by decide)
    simp only [BoxAt] at hbx hby
    have hx : xs[k]? = some xs[k] := gE hlt
    have hy : ys[k]? = some ys[k] := gE hlt'
    generalize xs[k] = x at *
    generalize ys[k] = y at *
    have := mixed
    by_cases he : x = y
    ·have hdd : decide (x = y) = true := by simpa using he
     have HE := hiD he
     clear he
     go_wp2
     go_quiet_grown (fail)
     go_wp2
     go_roundw
     case rel =>
      refine ⟨k + 1, by omega, by go_num, hg.trans gw, fun j hj => ?_⟩
      by_cases hjk : j < k
      ·exact hall j hjk
      ·obtain rfl : j = k := by omega
       rw [hx, hy, HE.out]
     case measure => simp [intOf]; omega
    ·have hdd : decide (x = y) = false := by simpa using he
     have HE := hiD he
     clear he
     go_wp2
     go_quiet_grown (fail)
     go_wp2
     go_ret
     refine ⟨?_, hg.trans gw⟩
     have : decide (xs = ys) = false := decide_eq_false fun h => HE.out (by rw [h, hy] at hx; exact (Option.some.inj hx).symm)
     rw [this]; rfl
   ·obtain rfl : k = xs.length := by omega
    go_wp2
    go_ret
    refine ⟨?_, hg⟩
    have : decide (xs = ys) = true := decide_eq_true (List.ext_getElem? fun j => by
     by_cases hj : j < xs.length
     ·exact hall j hj
     ·rw [List.getElem?_eq_none (by omega), List.getElem?_eq_none (by have := HL.out; omega)])
    rw [this]; rfl
 ·have hd : (((xs.length : Nat) : Int) != ((ys.length : Nat) : Int)) = true := by simp; omega
  have : decide (xs = ys) = false := decide_eq_false fun h => hl (by rw [h])
  rw [this]
  clear this hl
  go_enter Tryz.func50, Tryz.ntmps50
  exact tZ92
end Go.Proofs.OGW
namespace Go.Proofs.OGW
open Go.RowKit Go.Sort OG Go.Shelf
attribute [local go_sem] sA fv sB sG
attribute [local go_sem ↓] ld66 ld51 st66 st51
structure Held (w0 : World) (n : Nat) (xs : List PB) (w : World) : Prop where
 os : w.os = w0.os
 tape : w.tape = w0.tape
 output : w.output = w0.output
 drawn : w0.drawn ≤ w.drawn
 size : w0.heap.size ≤ w.heap.size
 keep : ∀ k, k < w0.heap.size → k ≠ n → w.heap[k]? = w0.heap[k]?
 lt : n < w0.heap.size
 row : ∃ cs : Array Value, w.heap[n]? = some (.cells cs 66 (0, 0)) ∧ xs.length * 15 ≤ cs.size ∧ ∀ i x, xs[i]? = some x → ∀ j v, (bcells (raw x))[j]? = some v → cs[i * 15 + j]? = some v
theorem Held.nlt {w0 : World} {n : Nat} {xs : List PB} {w : World} (h : Held w0 n xs w) : n < w.heap.size := Nat.lt_of_lt_of_le h.lt h.size
theorem Held.gr {w0 : World} {n : Nat} {xs : List PB} {w w' : World} (h : Held w0 n xs w) (hg : Gr w w') : Held w0 n xs w' where
 os := hg.b.os.trans h.os
 tape := hg.b.tape.trans h.tape
 output := hg.b.output.trans h.output
 drawn := Nat.le_trans h.drawn hg.d
 size := Nat.le_trans h.size hg.b.size
 keep k hk hne := (hg.b.block k (Nat.lt_of_lt_of_le hk h.size)).trans (h.keep k hk hne)
 lt := h.lt
 row := by obtain ⟨cs, h1, h2⟩ := h.row; exact ⟨cs, (hg.b.block n h.nlt).trans h1, h2⟩
theorem Held.load {w0 : World} {n : Nat} {xs : List PB} {w : World} (h : Held w0 n xs w) {i : Nat} {x : PB} (hx : xs[i]? = some x) : rowV 15 w n (i * 15) = some (pv x) := by
 obtain ⟨cs, h1, h2, h3⟩ := h.row
 refine rowV_of rfl fun j v hv => ?_
 have := h3 i x hx j v (by simpa using hv)
 simp [World.cell?, h1, this]
theorem setRow_eq {w : World} {n : Nat} {cs : Array Value} {t : TypeId} {fr : Nat × Nat} (h : w.heap[n]? = some (.cells cs t fr)) (vs : Array Value) : (w.setRow n vs).heap[n]? = some (.cells vs t fr) := setRow_heap w n cs vs t fr h
theorem Held.store {w0 : World} {n : Nat} {xs : List PB} {w : World} (h : Held w0 n xs w) {i : Nat} (hi : i < xs.length) (b : PB) :
 ∃ w', (stV 66 ⟨n, i * 15, none⟩ (pv b)).run Tryz.prog w = .ok () w' ∧ Held w0 n (xs.set i b) w' := by
 obtain ⟨cs, h1, h2, h3⟩ := h.row
 have hl : (bcells (raw b)).length = 15 := rfl
 have hfit : i * 15 + 0 + (bcells (raw b)).length ≤ cs.size := by rw [hl]; omega
 have hst := run_storeCells_at Tryz.prog n (i * 15) 66 (bcells (raw b)) 0 cs w h1 hfit (by simp [Value.oneCell'])
 refine ⟨w.setRow n ((cs.toList.take (i * 15 + 0) ++ bcells (raw b) ++ cs.toList.drop (i * 15 + 0 + (bcells (raw b)).length)).toArray), ?_, ?_⟩
 ·have hz : (Go.sizeOf 66).run Tryz.prog w = .ok 15 w := Tryz.sizeOf66 w
  have gen : ∀ vs : Array Value, vs.size = 15 → vs.toList = bcells (raw b) → (stV 66 ⟨n, i * 15, none⟩ (.agg vs)).run Tryz.prog w =
   .ok () (w.setRow n ((cs.toList.take (i * 15 + 0) ++ bcells (raw b) ++ cs.toList.drop (i * 15 + 0 + (bcells (raw b)).length)).toArray)) := by
   intro vs hs hv
   rw [← hv] at hst ⊢
   simp only [stV, storeVar, Sem.run_bind, hz, Result.andThen_ok, Value.cells, hs, ne_eq, not_true_eq_false, if_false]
   exact hst
  exact gen _ rfl rfl
 ·have hne : ∀ k, k ≠ n → (w.setRow n ((cs.toList.take (i * 15 + 0) ++ bcells (raw b) ++ cs.toList.drop (i * 15 + 0 + (bcells (raw b)).length)).toArray)).heap[k]? = w.heap[k]? := fun k hk => setRow_other w n k _ hk
  refine ⟨h.os, h.tape, h.output, h.drawn, ?_, fun k hk hkn => (hne k hkn).trans (h.keep k hk hkn), h.lt, _, setRow_eq h1 _, ?_, ?_⟩
  ·rw [show (w.setRow n ((cs.toList.take (i * 15 + 0) ++ bcells (raw b) ++ cs.toList.drop (i * 15 + 0 + (bcells (raw b)).length)).toArray)).heap.size = w.heap.size from by simp [World.setRow]]
   exact h.size
  ·simp only [List.length_set, List.size_toArray, List.length_append, List.length_take, List.length_drop, Array.length_toList, hl]
   omega
  ·intro k x hx j v hv
   have hj : j < 15 := by have := (gO hv).1; exact this
   rw [List.getElem?_toArray, List.append_assoc]
   by_cases hk : k = i
   ·subst hk
    rw [List.getElem?_set_self hi] at hx
    obtain rfl := Option.some.inj hx
    rw [List.getElem?_append_right (by simp; omega), List.getElem?_append_left (by simp; omega)]
    rw [← hv]
    congr 1
    simp; omega
   ·rw [List.getElem?_set_ne (Ne.symm hk)] at hx
    have hkl : k < xs.length := (gO hx).1
    have hc := h3 k x hx j v hv
    rcases Nat.lt_or_gt_of_ne hk with hlt | hgt
    ·rw [List.getElem?_append_left (by simp; omega), List.getElem?_take_of_lt (by omega)]
     simpa using hc
    ·rw [List.getElem?_append_right (by simp; omega), List.getElem?_append_right (by simp; omega), List.getElem?_drop]
     rw [← Array.getElem?_toList] at hc
     rw [← hc]
     congr 1
     simp; omega
theorem wpList_st66 {w0 : World} {n : Nat} {xs : List PB} {W : World} {ops : Array Oper} {rest : List Oper} {o : Oper} {a : Act} {Q : Exit → Act → World → Prop} (hgd : o.guard = none) (x y : Operand) (ho : o.op = .store 66 x y)
 (i : Nat) (b : PB) (hx : a.eval x = .pointer (some ⟨n, i * 15, none⟩)) (hy : a.eval y = pv b) (hH : Held w0 n xs W) (hi : i < xs.length)
 (h : ∀ W', Held w0 n (xs.set i b) W' → wpList Tryz.prog ops Q rest (a.put o.dst undef) W') : wpList Tryz.prog ops Q (o :: rest) a W := by
 refine wpList_plain hgd fun K hK => ?_
 obtain ⟨w', hr, hH'⟩ := hH.store hi b
 have hk := hK _ _ (h w' hH')
 unfold Oper.wp execOp
 simp only [stV] at hr
 simp only [ho, hx, hy, Instr.storeAt, Instr.sureAddr, Sem.run_bind, Sem.run_pure, Result.andThen_ok, hr]
 exact hk
theorem wpList_pure {W : World} {ops : Array Oper} {rest : List Oper} {o : Oper} {a : Act} {Q : Exit → Act → World → Prop} (hgd : o.guard = none) (v : Value) (hv : ∀ w, (execOp a.eval o).run Tryz.prog w = .ok (.value v) w)
 (h : wpList Tryz.prog ops Q rest (a.put o.dst v) W) : wpList Tryz.prog ops Q (o :: rest) a W := by
 refine wpList_plain hgd fun K hK => ?_
 unfold Oper.wp
 rw [hv]
 exact hK _ _ h
structure Cmp (w0 : World) (n : Nat) (S : PB → Prop) (g : FuncId) (lb : Array Value) (cf : PB → PB → Int) : Prop where
 ent : ∀ args w, (callFunc g args).run Tryz.prog w = .ok (.enter g args) w
 call : ∀ x y w, S x → S y → w0.heap.size ≤ w.heap.size → (∀ k, k < w0.heap.size → k ≠ n → w.heap[k]? = w0.heap[k]?) → Calls Tryz.prog g (#[pv x, pv y] ++ lb) w fun e w' => e = .returned (.int .i64 (cf x y)) ∧ Gr w w'
theorem Cmp.at {w0 : World} {n : Nat} {S : PB → Prop} {g : FuncId} {lb : Array Value} {cf : PB → PB → Int} (h : Cmp w0 n S g lb cf) {xs : List PB} {w : World} (hH : Held w0 n xs w) {x y : PB} (hx : S x) (hy : S y) (m : Nat) (os : Array Obj) :
 Calls Tryz.prog g (#[pv x, pv y] ++ lb) (Sort.grow (w.drewN m) os) fun e w'' => e = .returned (.int .i64 (cf x y)) ∧ ∃ p : GrownBy, w'' = Sort.grow (w.drewN p.n) p.os := by
 have hH' := hH.gr (Gr.of_eq m os)
 exact Calls.grown_of ((h.call x y _ hx hy hH'.size hH'.keep).mono fun _ _ ⟨he, hg⟩ => ⟨he, hg.eq⟩)
end Go.Proofs.OGW
namespace Go.Proofs.OGW
open Go.RowKit Go.Sort OG Go.Shelf
attribute [local go_sem] sA fv sB sG Nat.zero_add
attribute [local go_sem ↓] ld66 ld51 st66 st51
set_option maxHeartbeats 1000000 in
set_option maxRecDepth 100000 in
theorem swap_call (w0 : World) (n c a b m : Nat) (fv : Value) (xs L A B C R : List PB) (W : World) (hH : Held w0 n xs W) (hxs : xs = L ++ (A ++ (B ++ (C ++ R)))) (hA : A.length = m) (hC : C.length = m) (ha : L.length = a) (hb : L.length + A.length + B.length = b)
 (len : Nat) (hln : xs.length = len) (hlen : len ≤ 1000000000) : Calls Tryz.prog 187 #[.slice (some ⟨n, 0, none⟩) len c, .int .i64 a, .int .i64 b, .int .i64 m, fv] W fun e w' => e = .returned (.tuple #[]) ∧ Held w0 n (L ++ (C ++ (B ++ (A ++ R)))) w' := by
 have hl := congrArg List.length hxs
 simp only [List.length_append] at hl
 have HX := hiD hxs
 clear hxs
 rw [hln] at hl
 have HL := hiD hl
 clear hl hln
 go_enter Tryz.func187, Tryz.ntmps187
 go_wp2
 go_loopw [10] (fun i wr => ∃ (k : Nat) (A1 A2 C1 C2 : List PB), k ≤ m ∧ i = .int .i64 k ∧ A1.length = k ∧ C1.length = k ∧ Hid (A = A1 ++ A2) ∧ Hid (C = C1 ++ C2) ∧ Held w0 n (L ++ (C1 ++ (A2 ++ (B ++ (A1 ++ (C2 ++ R)))))) wr) (fun i _ => m - (intOf i).toNat)
 case atStart => exact ⟨0, [], A, [], C, by omega, rfl, rfl, rfl, rfl, rfl, by simpa using HX.out ▸ hH⟩
 case round =>
  obtain ⟨k, A1, A2, C1, C2, hk, rfl, hA1, hC1, HA, HC, hHr⟩ := hrel
  have lA := congrArg List.length HA.out
  have lC := congrArg List.length HC.out
  simp only [List.length_append] at lA lC
  by_cases hlt : k < m
  ·obtain ⟨x, A2, rfl⟩ : ∃ x r, A2 = x :: r := by cases A2 with | nil => simp at lA; omega | cons x r => exact ⟨x, r, rfl⟩
   obtain ⟨y, C2, rfl⟩ : ∃ x r, C2 = x :: r := by cases C2 with | nil => simp at lC; omega | cons x r => exact ⟨x, r, rfl⟩
   have l1 : rowV 15 wr n ((a + k) * 15) = some (pv x) := hHr.load (by rw [← List.append_assoc, List.getElem?_append_right (by simp; omega)]; simp [show a + k - (L.length + C1.length) = 0 by omega])
   have l2 : rowV 15 wr n ((b + k) * 15) = some (pv y) := hHr.load (by
    have e : L ++ (C1 ++ (x :: A2 ++ (B ++ (A1 ++ (y :: C2 ++ R))))) = (L ++ C1 ++ (x :: A2) ++ B ++ A1) ++ (y :: C2 ++ R) := by simp
    rw [e, List.getElem?_append_right (by simp at lA ⊢; omega)]
    have : b + k - (L ++ C1 ++ (x :: A2) ++ B ++ A1).length = 0 := by simp at lA ⊢; omega
    rw [this]; rfl)
   have hn := hHr.nlt
   simp only [List.length_cons] at lA lC
   have z1 : (a : Int) + k < len := by have := HL.out; omega
   have z2 : (b : Int) + k < len := by have := HL.out; omega
   have z3 : (0 : Int) ≤ (a : Int) + k := by omega
   have z4 : (0 : Int) ≤ (b : Int) + k := by omega
   have t1 : ((a : Int) + k).toNat = a + k := by omega
   have t2 : ((b : Int) + k).toNat = b + k := by omega
   have w1 : IntKind.i64.wrap ((a : Int) + k) = a + k := IntWalk.i64_in _ ⟨by omega, by omega⟩
   have w2 : IntKind.i64.wrap ((b : Int) + k) = b + k := IntWalk.i64_in _ ⟨by omega, by omega⟩
   go_wp2
   refine ord_grown [0, 1, 2, 3, 4, 5, 6, 7] [8, 9, 10, 11, 12, 13, 14, 15, 16, 17, 18, 19, 20] [21, 22, 23] (by kernel_rfl) (fun d _ _ _ _ h => by cases d <;> exact h) ?_
   simp only [List.filterMap_cons, List.filterMap_nil, List.getElem?_cons_succ, List.getElem?_cons_zero]
   repeat (refine wpPure_step (fun K hK => ?_); go_simp; refine hK _ ?_; clear hK K)
   refine wpPure_nil ?_
   repeat (quiet_step (fail))
   refine wpQuiet_nil ?_
   rintro w' ⟨⟨nq, osq⟩, rfl⟩
   have hHr2 := hHr.gr (Gr.of_eq nq osq)
   generalize Sort.grow (wr.drewN nq) osq = w2 at hHr2 ⊢
   have e1 : (L ++ (C1 ++ (x :: A2 ++ (B ++ (A1 ++ (y :: C2 ++ R)))))).set (a + k) y = L ++ (C1 ++ (y :: A2 ++ (B ++ (A1 ++ (y :: C2 ++ R))))) := by
    rw [← List.append_assoc, List.set_append_right _ _ (by simp; omega)]
    simp [show a + k - (L.length + C1.length) = 0 by omega]
   have e2 : (L ++ (C1 ++ (y :: A2 ++ (B ++ (A1 ++ (y :: C2 ++ R)))))).set (b + k) x = L ++ (C1 ++ (y :: A2 ++ (B ++ (A1 ++ (x :: C2 ++ R))))) := by
    have e : L ++ (C1 ++ (y :: A2 ++ (B ++ (A1 ++ (y :: C2 ++ R))))) = (L ++ C1 ++ (y :: A2) ++ B ++ A1) ++ (y :: C2 ++ R) := by simp
    rw [e, List.set_append_right _ _ (by simp; omega)]
    have : b + k - (L ++ C1 ++ (y :: A2) ++ B ++ A1).length = 0 := by simp; omega
    rw [this]; simp
   have E1 := hiD e1
   have E2 := hiD e2
   clear e1 e2
   have g1 : a + k < (L ++ (C1 ++ (x :: A2 ++ (B ++ (A1 ++ (y :: C2 ++ R)))))).length := by simp; omega
   have g2 : b + k < (L ++ (C1 ++ (y :: A2 ++ (B ++ (A1 ++ (y :: C2 ++ R)))))).length := by simp; omega
   refine wpList_st66 rfl _ _ rfl (a + k) y rfl rfl hHr2 g1 ?_
   intro w3 h3
   rw [E1.out] at h3
   refine wpList_pure rfl (.pointer (some ⟨n, (b + k) * 15, none⟩)) (fun w => by go_simp) ?_
   refine wpList_st66 rfl _ _ rfl (b + k) x rfl rfl h3 g2 ?_
   intro w4 h4
   rw [E2.out] at h4
   go_wp2
   go_roundw
   case rel => exact ⟨k + 1, A1 ++ [x], A2, C1 ++ [y], C2, by omega, by go_num, by simp [hA1], by simp [hC1], by show A = _; rw [HA.out]; simp, by show C = _; rw [HC.out]; simp, by simpa using h4⟩
   case measure => simp [intOf]; omega
  ·obtain rfl : k = m := by omega
   obtain rfl : A2 = [] := List.eq_nil_of_length_eq_zero (by omega)
   obtain rfl : C2 = [] := List.eq_nil_of_length_eq_zero (by omega)
   go_wp2
   go_end0
   refine ⟨rfl, ?_⟩
   have a1 := HA.out
   have c1 := HC.out
   simp only [List.append_nil] at a1 c1
   subst a1 c1
   simpa using hHr
set_option maxHeartbeats 1000000 in
set_option maxRecDepth 100000 in
theorem rotate_call (w0 : World) (n c a m b : Nat) (fv : Value) (xs L U V R : List PB) (W : World) (hH : Held w0 n xs W) (hxs : xs = L ++ (U ++ (V ++ R))) (ha : L.length = a) (hm : a + U.length = m) (hb : m + V.length = b)
 (hU : 0 < U.length) (hV : 0 < V.length) (len : Nat) (hln : xs.length = len) (hlen : len ≤ 1000000000) :
 Calls Tryz.prog 186 #[.slice (some ⟨n, 0, none⟩) len c, .int .i64 a, .int .i64 m, .int .i64 b, fv] W fun e w' => e = .returned (.tuple #[]) ∧ Held w0 n (L ++ (V ++ (U ++ R))) w' := by
 have hl := congrArg List.length hxs
 simp only [List.length_append] at hl
 rw [hln] at hl
 have HX := hiD hxs
 have HL := hiD hl
 have b1 : b ≤ len := by omega
 have b2 : a ≤ m := by omega
 have b3 : m ≤ b := by omega
 have HA := hiD ha
 have HM := hiD hm
 have HB := hiD hb
 clear hxs hl hln ha hm hb
 go_enter Tryz.func186, Tryz.ntmps186
 go_wp2
 go_loopw [10, 11] (fun i j wr => ∃ (P U' V' S : List PB), i = .int .i64 (U'.length : Nat) ∧ j = .int .i64 (V'.length : Nat) ∧ 0 < U'.length ∧ 0 < V'.length ∧ L.length + P.length + U'.length = m ∧ m + V'.length + S.length = b ∧
  Hid (P ++ (V' ++ (U' ++ S)) = V ++ U) ∧ Held w0 n (L ++ (P ++ (U' ++ (V' ++ (S ++ R))))) wr) (fun i j _ => (intOf i).toNat + (intOf j).toNat)
 case atStart =>
  have ha := HA.out
  have hm := HM.out
  have hb := HB.out
  refine ⟨[], U, V, [], ?_, ?_, hU, hV, by simp; omega, by simpa using hb, by simp [Hid], by have := HX.out; subst this; simpa using hH⟩
  ·congr 1; omega
  ·congr 1; omega
 case round =>
  obtain ⟨P, U', V', S, rfl, rfl, hu, hv, hmm, hbb, HP, hHr⟩ := hrel
  have hlr : (L ++ (P ++ (U' ++ (V' ++ (S ++ R))))).length = len := by
   have h1 := HL.out
   have ha := HA.out
   have hm := HM.out
   have hb := HB.out
   simp only [List.length_append]
   omega
  have HLR := hiD hlr
  have HMM := hiD hmm
  have HBB := hiD hbb
  have u1 : U'.length ≤ m := by omega
  have u2 : m + V'.length ≤ b := by omega
  clear hlr
  rcases Nat.lt_trichotomy U'.length V'.length with hij | hij | hij
  ·
   have hd1 : (((U'.length : Nat) : Int) != ((V'.length : Nat) : Int)) = true := by simp; omega
   have hd2 : decide (((V'.length : Nat) : Int) < ((U'.length : Nat) : Int)) = false := by simp; omega
   obtain ⟨V1, V2, hVV, hV2⟩ : ∃ V1 V2, V' = V1 ++ V2 ∧ V2.length = U'.length := ⟨V'.take (V'.length - U'.length), V'.drop (V'.length - U'.length), by simp, by simp; omega⟩
   have hs := fun W hh => swap_call w0 n c (m - U'.length) (m + V'.length - U'.length) U'.length fv _ (L ++ P) U' V1 V2 (S ++ R) W hh (by rw [hVV]; simp) rfl hV2 (by simp; omega) (by simp; have := congrArg List.length hVV; simp at this; omega) len HLR.out hlen
   have hlv := congrArg List.length hVV
   simp only [List.length_append] at hlv
   have HV := hiD hVV
   have HLV := hiD hlv
   have HV2 := hiD hV2
   clear hVV hlv hV2
   have HS := hiD hs
   clear hs
   have e1 : (m : Int) - (U'.length : Nat) = ((m - U'.length : Nat) : Int) := by omega
   have e2 : (m : Int) + (V'.length : Nat) - (U'.length : Nat) = ((m + V'.length - U'.length : Nat) : Int) := by omega
   have E1 := hiD e1
   have E2 := hiD e2
   clear e1 e2
   go_wp2_with fail
   rw [E1.out, E2.out]
   refine (HS.out _ hHr).mono ?_
   rintro e w' ⟨rfl, hh⟩
   go_wp2
   go_roundw
   case rel =>
    have hlv := HLV.out
    have hV2 := HV2.out
    refine ⟨P, V2, V1, U' ++ S, ?_, ?_, by omega, by omega, by omega, by simp; omega, ?_, by simpa using hh⟩
    ·rw [hV2]
    ·congr 1; omega
    ·show _ = _
     have h1 := HP.out
     rw [HV.out] at h1
     rw [← h1]; simp
   case measure => have hlv := HLV.out; have hV2 := HV2.out; simp [intOf]; omega
  ·have hd1 : (((U'.length : Nat) : Int) != ((V'.length : Nat) : Int)) = false := by simp; omega
   have hs := fun W hh => swap_call w0 n c (m - U'.length) m U'.length fv _ (L ++ P) U' [] V' (S ++ R) W hh (by simp) rfl hij.symm (by simp; omega) (by simp; omega) len HLR.out hlen
   have HS := hiD hs
   clear hs
   have e1 : (m : Int) - (U'.length : Nat) = ((m - U'.length : Nat) : Int) := by omega
   have E1 := hiD e1
   clear e1
   have HIJ := hiD hij
   clear hij
   go_wp2_with fail
   rw [E1.out]
   refine (HS.out _ hHr).mono ?_
   rintro e w' ⟨rfl, hh⟩
   go_wp2
   go_end0
   refine ⟨rfl, ?_⟩
   have e : L ++ (V ++ (U ++ R)) = L ++ ((V ++ U) ++ R) := by simp
   rw [e, ← HP.out]
   simpa using hh
  ·have hd1 : (((U'.length : Nat) : Int) != ((V'.length : Nat) : Int)) = true := by simp; omega
   have hd2 : decide (((V'.length : Nat) : Int) < ((U'.length : Nat) : Int)) = true := by simp; omega
   obtain ⟨U1, U2, hUU, hU1⟩ : ∃ U1 U2, U' = U1 ++ U2 ∧ U1.length = V'.length := ⟨U'.take V'.length, U'.drop V'.length, by simp, by simp; omega⟩
   have hs := fun W hh => swap_call w0 n c (m - U'.length) m V'.length fv _ (L ++ P) U1 U2 V' (S ++ R) W hh (by rw [hUU]; simp) hU1 rfl (by simp; omega) (by simp; have := congrArg List.length hUU; simp at this; omega) len HLR.out hlen
   have hlu := congrArg List.length hUU
   simp only [List.length_append] at hlu
   have HU := hiD hUU
   have HLU := hiD hlu
   have HU1 := hiD hU1
   clear hUU hlu hU1
   have HS := hiD hs
   clear hs
   have e1 : (m : Int) - (U'.length : Nat) = ((m - U'.length : Nat) : Int) := by omega
   have E1 := hiD e1
   clear e1
   go_wp2_with fail
   rw [E1.out]
   refine (HS.out _ hHr).mono ?_
   rintro e w' ⟨rfl, hh⟩
   go_wp2
   go_roundw
   case rel =>
    have hlu := HLU.out
    have hU1 := HU1.out
    refine ⟨P ++ V', U2, U1, S, ?_, ?_, by omega, by omega, by simp; omega, by omega, ?_, by simpa using hh⟩
    ·congr 1; omega
    ·rw [hU1]
    ·show _ = _
     have h1 := HP.out
     rw [HU.out] at h1
     rw [← h1]; simp
   case measure => have hlu := HLU.out; have hU1 := HU1.out; simp [intOf]; omega
end Go.Proofs.OGW
