import Derived.Laws.StructEq
import Derived.Test.YtmejcmollpbcfaaGreatP02
set_option linter.all false
namespace Go.Proofs.OGW
open Go.RowKit Go.Sort OG
attribute [local go_sem] sA fv sB
attribute [local go_sem ↓] ld66 ld51 st66 st51
def Row {α : Type} (sz : Nat) (At : World → Nat → Nat → α → Prop) (w : World) (A : Option Addr) (xs : List α) : Prop :=
 xs.length ≤ 140737488355328 ∧ ∀ j x, xs[j]? = some x → ∃ blk off, A = some ⟨blk, off, none⟩ ∧ At w blk (off + j * sz) x
theorem Row.mono {α : Type} {sz : Nat} {At : World → Nat → Nat → α → Prop} {w w' : World} {A : Option Addr} {xs : List α} (h : Row sz At w A xs) (hm : ∀ b o x, At w b o x → At w' b o x) : Row sz At w' A xs :=
 ⟨h.1, fun j x hx => by obtain ⟨b, o, e, k⟩ := h.2 j x hx; exact ⟨b, o, e, hm _ _ _ k⟩⟩
theorem Row.get {α : Type} {sz : Nat} {At : World → Nat → Nat → α → Prop} {w : World} {A : Option Addr} {xs : List α} (h : Row sz At w A xs) {j : Nat} (hj : j < xs.length) :
 ∃ blk off, A = some ⟨blk, off, none⟩ ∧ At w blk (off + j * sz) xs[j] := h.2 j _ (gE hj)
def BoxAt (w : World) (b o : Nat) (x : RBox) : Prop := rowV 15 w b o = some (bv x)
theorem BoxAt.gr {w w' : World} {b o : Nat} {x : RBox} (hg : Gr w w') (h : BoxAt w b o x) : BoxAt w' b o x := rowV_mono hg h rfl
abbrev BoxRow (w : World) (A : Option Addr) (xs : List RBox) : Prop := Row 15 BoxAt w A xs
theorem BoxRow.gr {w w' : World} {A : Option Addr} {xs : List RBox} (h : BoxRow w A xs) (hg : Gr w w') : BoxRow w' A xs := Row.mono h fun _ _ _ => BoxAt.gr hg
def checkB (bs : List RBox) : Int := if 200 < bs.length then 2 else if bs.all RBox.placed then 0 else 41
set_option maxHeartbeats 1000000 in
theorem check_call (A : Option Addr) (c : Nat) (bs : List RBox) (w : World) (hr : BoxRow w A bs) :
 Calls Tryz.prog 36 #[.slice A bs.length c] w fun e w' => e = .returned (.int .i64 (checkB bs)) ∧ Gr w w' := by
 have hb := hr.1
 by_cases hbig : 200 < bs.length
 ·have hv : checkB bs = 2 := by simp [checkB, hbig]
  rw [hv]
  clear hv
  go_enter Tryz.func36, Tryz.ntmps36
  go_wp2
  go_ret
  exact ⟨rfl, Gr.refl _⟩
 ·have hd : decide (200 < (bs.length : Int)) = false := by simpa using Int.not_lt.1 (by omega)
  have HV := hiD (show checkB bs = if bs.all RBox.placed then 0 else 41 by simp [checkB, hbig])
  go_enter Tryz.func36, Tryz.ntmps36
  go_wp2
  go_loopw [10] (fun i wr => ∃ k : Nat, k ≤ bs.length ∧ i = .int .i64 k ∧ Gr w wr ∧ (∀ j, j < k → ∀ b, bs[j]? = some b → b.placed = true)) (fun i _ => bs.length - (intOf i).toNat)
  case atStart => exact ⟨0, by omega, rfl, Gr.refl _, fun j hj => by omega⟩
  case round =>
   obtain ⟨k, hk, rfl, hg, hall⟩ := hrel
   by_cases hlt : k < bs.length
   ·have hr' := hr.gr hg
    obtain ⟨blk, off, rfl, hbx⟩ := hr'.get hlt
    simp only [BoxAt] at hbx
    have hp := placed_call bs[k]
    have hkb : bs[k]? = some bs[k] := gE hlt
    generalize bs[k] = b at *
    cases hpl : b.placed
    ·rw [hpl] at hp
     go_wp2_with (go_at_call 81; refine (hp.at _).mono ?_; rintro e w' ⟨rfl, q, os, rfl⟩)
     go_ret
     refine ⟨ret_int ?_, hg.trans gw⟩
     rw [HV.out, if_neg]
     rw [List.all_eq_true]
     intro h
     have := h b (List.mem_of_getElem? hkb)
     rw [hpl] at this
     cases this
    ·rw [hpl] at hp
     go_wp2_with (go_at_call 81; refine (hp.at _).mono ?_; rintro e w' ⟨rfl, q, os, rfl⟩)
     go_roundw
     case rel =>
      refine ⟨k + 1, by omega, by go_num, hg.trans gw, fun j hj b' hb' => ?_⟩
      by_cases hjk : j < k
      ·exact hall j hjk b' hb'
      ·obtain rfl : j = k := by omega
       rw [hkb] at hb'
       obtain rfl := Option.some.inj hb'
       exact hpl
     case measure => simp [intOf]; omega
   ·obtain rfl : k = bs.length := by omega
    go_wp2
    go_ret
    refine ⟨ret_int ?_, hg⟩
    rw [HV.out, if_pos]
    rw [List.all_eq_true]
    intro b hb
    obtain ⟨j, hj, e⟩ := List.getElem_of_mem hb
    exact hall j hj b (by rw [gE hj, e])
def frB (ac : Bool) (p : PB) : Rat := if ac then p.x else p.y
set_option maxHeartbeats 1000000 in
theorem from_call (p : PB) (ac : Bool) : Ans 40 #[pv p, .bool ac] (fv (fr ac p)) := by
 intro w
 cases ac
 all_goals
  simp only [fr, Bool.false_eq_true, if_false, if_true]
  go_enter Tryz.func40, Tryz.ntmps40
  go_wp2
  refine bodyPost_ret (res64 Tryz.results40 rfl ?_) rfl ⟨rfl, ?_⟩
  ·go_simp
  ·exact gw
theorem tZ60 {P : Prop} (h : P := by
 go_enter Tryz.func86, Tryz.ntmps86
 go_wp2_with (go_at_call 82; refine (ha.at _).mono ?_; rintro e w' ⟨rfl, q, os, rfl⟩)
 refine bodyPost_ret (res64 Tryz.results86 rfl ?_) rfl ⟨rfl, ?_⟩
 ·go_simp
 ·exact gw) : P := h
set_option maxHeartbeats 1000000 in
theorem to_call (p : PB) (ac : Bool) (hx : vld p.x = true) (hy : vld p.y = true) (hw : vld p.w = true) (hh : vld p.h = true) : Ans 86 #[pv p, .bool ac] (fv (OG.to ac p)) := by
 intro w
 cases ac
 ·have ha := add_v hy hh
  simp only [OG.to, fr, ex, Bool.false_eq_true, if_false]
  generalize p.y + p.h = s at *
  exact tZ60
 ·have ha := add_v hx hw
  simp only [OG.to, fr, ex, if_true]
  generalize p.x + p.w = s at *
  exact tZ60
abbrev pgv (way len : Int) : Value := .agg #[.int .i64 way, .int .i64 len]
set_option maxHeartbeats 1000000 in
theorem rows_call (way len : Int) : Ans 41 #[pgv way len] (.bool (decide (way ≤ 2))) := by
 intro w
 go_enter Tryz.func41, Tryz.ntmps41
 exact tZ92
def pageOk (way len : Int) : Bool := decide (1 ≤ way) && decide (way ≤ 4) && decide (48 ≤ len) && decide (len ≤ 4800)
def pageE (way len : Int) : Int := if pageOk way len then 0 else 40
theorem tZ105 {P : Prop} (h : P := by
 by_cases a : 1 ≤ way <;> by_cases b : way ≤ 4 <;> by_cases c : 48 ≤ len <;> by_cases d : len ≤ 4800 <;> simp [a, b, c, d] <;> omega) : P := h
set_option maxHeartbeats 1000000 in
theorem pageCheck_call (way len : Int) : Ans 35 #[pgv way len] (.int .i64 (pageE way len)) := by
 intro w
 have hcase : (way < 1 ∧ pageE way len = 40) ∨ (1 ≤ way ∧ 4 < way ∧ pageE way len = 40) ∨ (1 ≤ way ∧ way ≤ 4 ∧ len < 48 ∧ pageE way len = 40) ∨ (1 ≤ way ∧ way ≤ 4 ∧ 48 ≤ len ∧ 4800 < len ∧ pageE way len = 40) ∨
  (1 ≤ way ∧ way ≤ 4 ∧ 48 ≤ len ∧ len ≤ 4800 ∧ pageE way len = 0) := by
  unfold pageE pageOk
  exact tZ105
 rcases hcase with ⟨h1, hv⟩ | ⟨h1, h2, hv⟩ | ⟨h1, h2, h3, hv⟩ | ⟨h1, h2, h3, h4, hv⟩ | ⟨h1, h2, h3, h4, hv⟩
 all_goals
  rw [hv]
  clear hv
  go_enter Tryz.func35, Tryz.ntmps35
  exact tZ92
abbrev nv (n : Nd) : Value := .agg #[.int .i64 n.lf.kind, .int .i64 n.depth, .int .i64 n.lf.sign, .int .i64 n.lf.turn, .bool n.lf.mirror, .int .i64 n.lf.state, .int .i64 n.lf.mn, .int .i64 n.lf.mx]
set_option maxHeartbeats 1000000 in
theorem node_call (b : RBox) (d : Int) : Ans 95 #[bv b, .int .i64 d] (nv ⟨b.lf, d⟩) := by
 intro w
 go_enter Tryz.func95, Tryz.ntmps95
 go_wp2
 refine bodyPost_ret (res51 Tryz.results95 rfl ?_) rfl ⟨rfl, ?_⟩
 ·go_simp
 ·exact gw
set_option maxHeartbeats 1000000 in
theorem space_call (d : Int) (h1 : -1000000 ≤ d) (h2 : d ≤ 1000000) : Ans 97 #[.int .i64 d] (.int .i64 (sp d)) := by
 intro w
 show Calls _ _ _ _ fun e w' => e = .returned (.int .i64 (4 * (5 - d))) ∧ _
 go_enter Tryz.func97, Tryz.ntmps97
 exact tZ92
def turnedP (p : PB) (way : Int) : PB := if way % 2 = 0 then { p with x := -(p.x + p.w) } else p
set_option maxHeartbeats 1000000 in
theorem turned_call (p : PB) (way len : Int) (hx : vld p.x = true) (hw : vld p.w = true) (h1 : 0 ≤ way) (h2 : way ≤ 1000) : Ans 37 #[pv p, pgv way len] (pv (turnedP p way)) := by
 intro w
 have ha := add_v hx hw
 have hb : -4611686018427387904 ≤ (p.x + p.w).num ∧ (p.x + p.w).num ≤ 4611686018427387904 := by
  obtain ⟨a1, a2, a3⟩ := vld_bd hx
  obtain ⟨b1, b2, b3⟩ := vld_bd hw
  have u := prod_bd (N := 2147483647) (D := 32768) a1 a2 b3
  have v := prod_bd (N := 2147483647) (D := 32768) b1 b2 a3
  rw [Rat.num_add]
  generalize hs : p.x.num * (p.w.den : Int) + p.w.num * (p.x.den : Int) = s
  generalize hgd : s.natAbs.gcd (p.x.den * p.w.den) = g
  have hgp : 0 < g := by rw [← hgd]; exact Nat.gcd_pos_of_pos_right _ (Nat.mul_pos p.x.den_pos p.w.den_pos)
  have hg1 : (0 : Int) < g := by omega
  constructor
  ·rw [Int.le_ediv_iff_mul_le hg1]
   have : -4611686018427387904 * (g : Int) ≤ -4611686018427387904 * 1 := Int.mul_le_mul_of_nonpos_left (by omega) (by omega)
   omega
  ·rcases Int.lt_or_le s 0 with h | h
   ·have := Int.ediv_neg_of_neg_of_pos h hg1; omega
   ·exact Int.le_trans (Int.ediv_le_self _ h) (by omega)
 obtain ⟨hb1, hb2⟩ := hb
 by_cases hm : way % 2 = 0
 ·have hv : pv (turnedP p way) = .agg #[.int .i64 p.lf.kind, .int .i64 p.lf.sign, .int .i64 p.lf.turn, .bool p.lf.mirror, .int .i64 p.lf.state, .int .i64 p.lf.mn, .int .i64 p.lf.mx,
   .int .i64 (-(p.x + p.w).num), .int .i64 ((p.x + p.w).den : Int), .int .i64 p.y.num, .int .i64 p.y.den, .int .i64 p.w.num, .int .i64 p.w.den, .int .i64 p.h.num, .int .i64 p.h.den] := by
   simp only [turnedP, if_pos hm, pv, bv, Rat.neg_num, Rat.neg_den]
  rw [hv]
  have hd : (way % 2 == 0) = true := by simpa using hm
  clear hv hm
  generalize p.x + p.w = s at *
  go_enter Tryz.func37, Tryz.ntmps37
  go_wp2_with (go_at_call 82; refine (ha.at _).mono ?_; rintro e w' ⟨rfl, q, os, rfl⟩)
  refine bodyPost_ret (res66 Tryz.results37 rfl ?_) rfl ⟨rfl, ?_⟩
  ·go_simp
  ·exact gw
 ·have hv : turnedP p way = p := by simp only [turnedP, if_neg hm]
  rw [hv]
  have hd : (way % 2 == 0) = false := by simpa using hm
  clear hv hm ha hb1 hb2
  go_enter Tryz.func37, Tryz.ntmps37
  go_wp2
  refine bodyPost_ret (res66 Tryz.results37 rfl ?_) rfl ⟨rfl, ?_⟩
  ·go_simp
  ·exact gw
theorem eqf_cons {d : Nat} {xs ys : Array Value} {f : Field} {fs : List Field} {w : World} {a b : Value} {r s : Bool} (hn : (f.name ≠ "_") = True)
 (ha : (part f.type xs f.offset).run Tryz.prog w = .ok a w) (hb : (part f.type ys f.offset).run Tryz.prog w = .ok b w)
 (he : (Op.equalIn d f.type a b).run Tryz.prog w = .ok r w) (hs : (Op.eqFields d xs ys fs).run Tryz.prog w = .ok s w) : (Op.eqFields d xs ys (f :: fs)).run Tryz.prog w = .ok (r && s) w := by
 simp only [Op.eqFields, hn, if_true, Sem.run_bind, ha, hb, he, Result.andThen_ok]
 cases r <;> simp [hs]
theorem eqf_nil {d : Nat} {xs ys : Array Value} {w : World} : (Op.eqFields d xs ys []).run Tryz.prog w = .ok true w := rfl
theorem part_cell {t : TypeId} (hA : ∀ w, (isAgg t).run Tryz.prog w = .ok false w) {xs : Array Value} {o : Nat} {v : Value} (h : xs[o]? = some v) (w : World) : (part t xs o).run Tryz.prog w = .ok v w := by
 simp [part, hA, h]
theorem part_two {t : TypeId} {K : Nat} (hA : ∀ w, (isAgg t).run Tryz.prog w = .ok true w) (hS : ∀ w, (sizeOf t).run Tryz.prog w = .ok K w) (xs : Array Value) (o : Nat) (w : World) : (part t xs o).run Tryz.prog w = .ok (.agg (xs.extract o (o + K))) w := by
 simp [part, hA, hS]
theorem eq3 (d : Nat) (a b : Int) (w : World) : (Op.equalIn (d + 1) 3 (.int .i64 a) (.int .i64 b)).run Tryz.prog w = .ok (a == b) w := run_equalIn_int w d 3 .i64 .i64 a b Tryz.underlying3
theorem eq4 (d : Nat) (a b : Bool) (w : World) : (Op.equalIn (d + 1) 4 (.bool a) (.bool b)).run Tryz.prog w = .ok (a == b) w := run_equalIn_bool' w d 4 a b Tryz.underlying4
theorem tZ59 {P : Prop} (h : P := by
 refine eqf_cons (by simp) (part_cell Tryz.isAgg3 rfl w) (part_cell Tryz.isAgg3 rfl w) (eq3 _ _ _ _) ?_
 refine eqf_cons (by simp) (part_cell Tryz.isAgg3 rfl w) (part_cell Tryz.isAgg3 rfl w) (eq3 _ _ _ _) ?_
 exact eqf_nil) : P := h
theorem eq64 (d : Nat) (a b a' b' : Int) (w : World) : (Op.equalIn (d + 2) 64 (.agg #[.int .i64 a, .int .i64 b]) (.agg #[.int .i64 a', .int .i64 b'])).run Tryz.prog w = .ok ((a == a') && ((b == b') && true)) w := by
 rw [run_equalIn_agg w (d + 1) 64 _ _ (by kernel_rfl) (by kernel_rfl)]
 simp only [Program.fieldsOf, Tryz.underlying64]
 exact tZ59
theorem eqBoxR (x y : RBox) (w : World) : (Op.equalIn 10000 66 (bv x) (bv y)).run Tryz.prog w = .ok (decide (x = y)) w := by
 have e : decide (x = y) = ((x.lf.kind == y.lf.kind) && ((x.lf.sign == y.lf.sign) && ((x.lf.turn == y.lf.turn) && ((x.lf.mirror == y.lf.mirror) && ((x.lf.state == y.lf.state) && ((x.lf.mn == y.lf.mn) && ((x.lf.mx == y.lf.mx) &&
  (((x.xn == y.xn) && ((x.xd == y.xd) && true)) && (((x.yn == y.yn) && ((x.yd == y.yd) && true)) && (((x.wn == y.wn) && ((x.wd == y.wd) && true)) && (((x.hn == y.hn) && ((x.hd == y.hd) && true)) && true))))))))))) := by
  rw [Bool.eq_iff_iff]
  obtain ⟨⟨_, _, _, _, _, _, _⟩, _, _, _, _, _, _, _, _⟩ := x
  obtain ⟨⟨_, _, _, _, _, _, _⟩, _, _, _, _, _, _, _, _⟩ := y
  simp [and_assoc]
 rw [e, show (10000 : Nat) = 9999 + 1 from rfl, run_equalIn_agg w 9999 66 _ _ (by kernel_rfl) (by kernel_rfl)]
 simp only [Program.fieldsOf, Tryz.underlying66]
 refine eqf_cons (by simp) (part_cell Tryz.isAgg3 rfl w) (part_cell Tryz.isAgg3 rfl w) (eq3 _ _ _ _) ?_
 refine eqf_cons (by simp) (part_cell Tryz.isAgg3 rfl w) (part_cell Tryz.isAgg3 rfl w) (eq3 _ _ _ _) ?_
 refine eqf_cons (by simp) (part_cell Tryz.isAgg3 rfl w) (part_cell Tryz.isAgg3 rfl w) (eq3 _ _ _ _) ?_
 refine eqf_cons (by simp) (part_cell Tryz.isAgg4 rfl w) (part_cell Tryz.isAgg4 rfl w) (eq4 _ _ _ _) ?_
 refine eqf_cons (by simp) (part_cell Tryz.isAgg3 rfl w) (part_cell Tryz.isAgg3 rfl w) (eq3 _ _ _ _) ?_
 refine eqf_cons (by simp) (part_cell Tryz.isAgg3 rfl w) (part_cell Tryz.isAgg3 rfl w) (eq3 _ _ _ _) ?_
 refine eqf_cons (by simp) (part_cell Tryz.isAgg3 rfl w) (part_cell Tryz.isAgg3 rfl w) (eq3 _ _ _ _) ?_
 refine eqf_cons (by simp) (part_two Tryz.isAgg64 Tryz.sizeOf64 _ _ w) (part_two Tryz.isAgg64 Tryz.sizeOf64 _ _ w) (eq64 _ _ _ _ _ _) ?_
 refine eqf_cons (by simp) (part_two Tryz.isAgg64 Tryz.sizeOf64 _ _ w) (part_two Tryz.isAgg64 Tryz.sizeOf64 _ _ w) (eq64 _ _ _ _ _ _) ?_
 refine eqf_cons (by simp) (part_two Tryz.isAgg64 Tryz.sizeOf64 _ _ w) (part_two Tryz.isAgg64 Tryz.sizeOf64 _ _ w) (eq64 _ _ _ _ _ _) ?_
 refine eqf_cons (by simp) (part_two Tryz.isAgg64 Tryz.sizeOf64 _ _ w) (part_two Tryz.isAgg64 Tryz.sizeOf64 _ _ w) (eq64 _ _ _ _ _ _) ?_
 exact eqf_nil
theorem raw_inj {p q : PB} (h : raw p = raw q) : p = q := by
 simp only [raw, RBox.mk.injEq] at h
 obtain ⟨h0, h1, h2, h3, h4, h5, h6, h7, h8⟩ := h
 cases p
 cases q
 simp only [PB.mk.injEq] at *
 exact ⟨h0, Rat.ext h1 (by omega), Rat.ext h3 (by omega), Rat.ext h5 (by omega), Rat.ext h7 (by omega)⟩
theorem eqBoxP (p q : PB) (w : World) : (Op.equalIn 10000 66 (pv p) (pv q)).run Tryz.prog w = .ok (decide (p = q)) w := by
 rw [eqBoxR]
 have : decide (raw p = raw q) = decide (p = q) := decide_eq_decide.2 ⟨raw_inj, fun h => by rw [h]⟩
 rw [this]
theorem guard66 (op : BinOp) (t : TypeId) (x y : Operand) (xs ys : Array Value) (ht : t = 66) (w : World) : (eqGuard op t x y (.agg xs) (.agg ys)).run Tryz.prog w = .ok () w := by
 subst ht
 exact run_eqGuard_agg w op 66 x y xs ys (by kernel_rfl)
noncomputable def eqlV (t : TypeId) (x y : Value) : Sem Value := binOp .eql t x y
noncomputable def neqV (t : TypeId) (x y : Value) : Sem Value := binOp .neq t x y
theorem eq66 (x y : Value) : binOp .eql 66 x y = eqlV 66 x y := rfl
theorem ne66 (x y : Value) : binOp .neq 66 x y = neqV 66 x y := rfl
theorem eqlR (x y : RBox) (w : World) : (eqlV 66 (bv x) (bv y)).run Tryz.prog w = .ok (.bool (decide (x = y))) w := by
 rw [eqlV, run_eql_struct, eqBoxR]; rfl
theorem neqR (x y : RBox) (w : World) : (neqV 66 (bv x) (bv y)).run Tryz.prog w = .ok (.bool (!decide (x = y))) w := by
 rw [neqV, run_neq_struct, eqBoxR]; rfl
theorem eqlP (x y : PB) (w : World) : (eqlV 66 (.agg #[.int .i64 x.lf.kind, .int .i64 x.lf.sign, .int .i64 x.lf.turn, .bool x.lf.mirror, .int .i64 x.lf.state, .int .i64 x.lf.mn, .int .i64 x.lf.mx, .int .i64 x.x.num, .int .i64 (x.x.den : Int), .int .i64 x.y.num, .int .i64 (x.y.den : Int), .int .i64 x.w.num, .int .i64 (x.w.den : Int), .int .i64 x.h.num, .int .i64 (x.h.den : Int)]) (.agg #[.int .i64 y.lf.kind, .int .i64 y.lf.sign, .int .i64 y.lf.turn, .bool y.lf.mirror, .int .i64 y.lf.state, .int .i64 y.lf.mn, .int .i64 y.lf.mx, .int .i64 y.x.num, .int .i64 (y.x.den : Int), .int .i64 y.y.num, .int .i64 (y.y.den : Int), .int .i64 y.w.num, .int .i64 (y.w.den : Int), .int .i64 y.h.num, .int .i64 (y.h.den : Int)])).run Tryz.prog w = .ok (.bool (decide (x = y))) w := by
 show (eqlV 66 (pv x) (pv y)).run Tryz.prog w = _
 rw [eqlV, run_eql_struct, eqBoxP]; rfl
theorem neqP (x y : PB) (w : World) : (neqV 66 (.agg #[.int .i64 x.lf.kind, .int .i64 x.lf.sign, .int .i64 x.lf.turn, .bool x.lf.mirror, .int .i64 x.lf.state, .int .i64 x.lf.mn, .int .i64 x.lf.mx, .int .i64 x.x.num, .int .i64 (x.x.den : Int), .int .i64 x.y.num, .int .i64 (x.y.den : Int), .int .i64 x.w.num, .int .i64 (x.w.den : Int), .int .i64 x.h.num, .int .i64 (x.h.den : Int)]) (.agg #[.int .i64 y.lf.kind, .int .i64 y.lf.sign, .int .i64 y.lf.turn, .bool y.lf.mirror, .int .i64 y.lf.state, .int .i64 y.lf.mn, .int .i64 y.lf.mx, .int .i64 y.x.num, .int .i64 (y.x.den : Int), .int .i64 y.y.num, .int .i64 (y.y.den : Int), .int .i64 y.w.num, .int .i64 (y.w.den : Int), .int .i64 y.h.num, .int .i64 (y.h.den : Int)])).run Tryz.prog w = .ok (.bool (!decide (x = y))) w := by
 show (neqV 66 (pv x) (pv y)).run Tryz.prog w = _
 rw [neqV, run_neq_struct, eqBoxP]; rfl
theorem guard66' (op : BinOp) (x y : Operand) (xs ys : Array Value) (w : World) : (eqGuard op 66 x y (.agg xs) (.agg ys)).run Tryz.prog w = .ok () w := guard66 op 66 x y xs ys rfl w
def cmpI (a b : Int) : Int := if a < b then -1 else if b < a then 1 else 0
theorem nan_call (a : Int) : Ans 156 #[.int .i64 a] (.bool false) := by
 intro w
 go_enter Tryz.func156, Tryz.ntmps156
 go_wp2
 go_ret
 exact ⟨by simp, Gr.refl _⟩
set_option maxHeartbeats 400000 in
theorem cmpI_call (a b : Int) : Ans 109 #[.int .i64 a, .int .i64 b] (.int .i64 (cmpI a b)) := by
 intro w
 have hcase : (a < b ∧ cmpI a b = -1) ∨ (b ≤ a ∧ b < a ∧ cmpI a b = 1) ∨ (b ≤ a ∧ a ≤ b ∧ cmpI a b = 0) := by unfold cmpI; omega
 rcases hcase with ⟨h1, hv⟩ | ⟨h1, h2, hv⟩ | ⟨h1, h2, hv⟩
 all_goals
  rw [hv]
  clear hv
  go_enter Tryz.func109, Tryz.ntmps109
  go_wp2_with (go_at_call 156; refine ((nan_call _).at _).mono ?_; rintro e w' ⟨rfl, q, os, rfl⟩)
  exact tZ15
def bitI (b : Bool) : Int := if b then 1 else 0
theorem bit_call (b : Bool) : Ans 107 #[.bool b] (.int .i64 (bitI b)) := by
 intro w
 cases b
 all_goals
  simp only [bitI, Bool.false_eq_true, if_false, if_true]
  go_enter Tryz.func107, Tryz.ntmps107
  exact tZ92
def orL : List Int → Int
 | [] => 0
 | a :: r => if a = 0 then orL r else a
theorem orL_skip : ∀ (l : List Int) (k : Nat), (∀ j x, j < k → l[j]? = some x → x = 0) → orL l = orL (l.drop k)
 | _, 0, _ => rfl
 | [], k + 1, _ => rfl
 | a :: l, k + 1, h => by
   have : a = 0 := h 0 a (by omega) rfl
   rw [orL, if_pos this, List.drop_succ_cons]
   exact orL_skip l k fun j x hj hx => h (j + 1) x (by omega) (by simpa using hx)
def IntAt (w : World) (b o : Nat) (x : Int) : Prop := w.cell? ⟨b, o, none⟩ = some (.int .i64 x)
set_option maxHeartbeats 400000 in
theorem or_call (A : Option Addr) (c : Nat) (xs : List Int) (w : World) (hr : Row 1 IntAt w A xs) :
 Calls Tryz.prog 108 #[.slice A xs.length c] w fun e w' => e = .returned (.int .i64 (orL xs)) ∧ Gr w w' := by
 have hb := hr.1
 go_enter Tryz.func108, Tryz.ntmps108
 go_wp2
 go_loop [8] (fun i => ∃ k : Nat, k ≤ xs.length ∧ i = .int .i64 k ∧ (∀ j x, j < k → xs[j]? = some x → x = 0)) (fun i => xs.length - (intOf i).toNat)
 case atStart => exact ⟨0, by omega, rfl, fun j x hj => by omega⟩
 case round =>
  obtain ⟨k, hk, rfl, hall⟩ := hrel
  by_cases hlt : k < xs.length
  ·obtain ⟨blk, off, rfl, hc⟩ := hr.get hlt
   simp only [IntAt, Nat.mul_one] at hc
   have hx : xs[k]? = some xs[k] := gE hlt
   have HO := hiD (orL_skip xs k hall)
   have HD := hiD (List.drop_eq_getElem_cons hlt)
   generalize xs[k] = x at *
   by_cases h0 : x = 0
   ·have hd : (x != 0) = false := by simp [h0]
    go_wp2
    go_round
    case rel =>
     refine ⟨k + 1, by omega, by go_num, fun j y hj hy => ?_⟩
     by_cases hjk : j < k
     ·exact hall j y hjk hy
     ·obtain rfl : j = k := by omega
      rw [hx] at hy
      rw [← Option.some.inj hy]; exact h0
    case measure => simp [intOf]; omega
   ·have hd : (x != 0) = true := by simp [h0]
    go_wp2
    go_ret
    refine ⟨ret_int ?_, Gr.refl _⟩
    rw [HO.out, HD.out, orL, if_neg h0]
  ·have HO := hiD (orL_skip xs k hall)
   obtain rfl : k = xs.length := by omega
   go_wp2
   go_ret
   refine ⟨ret_int ?_, Gr.refl _⟩
   rw [HO.out, List.drop_length]; rfl
theorem ints_row {w : World} {cs : Array Value} {t : TypeId} {n : Nat} (xs : List Int) (h : cs.toList = xs.map (Value.int .i64)) (hn : n = w.heap.size) (hl : xs.length ≤ 140737488355328) :
 Row 1 IntAt (w.alloc (.cells cs t)) (some ⟨n, 0, none⟩) xs := by
 subst hn
 refine ⟨hl, fun j x hx => ⟨w.heap.size, 0, rfl, ?_⟩⟩
 unfold IntAt
 rw [World.cell?_alloc_new, ← Array.getElem?_toList, h]
 simp [hx]
def totalL (p q : PB) : List Int := [cmpR p.x q.x, cmpR p.y q.y, cmpR p.w q.w, cmpR p.h q.h, cmpI p.lf.kind q.lf.kind, cmpI p.lf.sign q.lf.sign, cmpI p.lf.turn q.lf.turn, bitI p.lf.mirror - bitI q.lf.mirror,
 cmpI p.lf.state q.lf.state, cmpI p.lf.mn q.lf.mn, cmpI p.lf.mx q.lf.mx]
def totalC (p q : PB) : Int := orL (totalL p q)
def PV (p : PB) : Prop := vld p.x = true ∧ vld p.y = true ∧ vld p.w = true ∧ vld p.h = true
theorem bitI_bd (b : Bool) : 0 ≤ bitI b ∧ bitI b ≤ 1 := by cases b <;> decide
set_option maxHeartbeats 4000000 in
set_option maxRecDepth 100000 in
theorem total_call (p q : PB) (hp : PV p) (hq : PV q) : Ans 49 #[pv p, pv q] (.int .i64 (totalC p q)) := by
 intro w
 have c1 := compare_v hp.1 hq.1
 have c2 := compare_v hp.2.1 hq.2.1
 have c3 := compare_v hp.2.2.1 hq.2.2.1
 have c4 := compare_v hp.2.2.2 hq.2.2.2
 have b1 := bitI_bd p.lf.mirror
 have b2 := bitI_bd q.lf.mirror
 have k1 := bit_call p.lf.mirror
 have k2 := bit_call q.lf.mirror
 have HT := hiD (show totalC p q = orL [cmpR p.x q.x, cmpR p.y q.y, cmpR p.w q.w, cmpR p.h q.h, cmpI p.lf.kind q.lf.kind, cmpI p.lf.sign q.lf.sign, cmpI p.lf.turn q.lf.turn, bitI p.lf.mirror - bitI q.lf.mirror,
  cmpI p.lf.state q.lf.state, cmpI p.lf.mn q.lf.mn, cmpI p.lf.mx q.lf.mx] from rfl)
 generalize cmpR p.x q.x = v1 at *
 generalize cmpR p.y q.y = v2 at *
 generalize cmpR p.w q.w = v3 at *
 generalize cmpR p.h q.h = v4 at *
 generalize bitI p.lf.mirror = m1 at *
 generalize bitI q.lf.mirror = m2 at *
 obtain ⟨b11, b12⟩ := b1
 obtain ⟨b21, b22⟩ := b2
 have hw : IntKind.i64.wrap (m1 - m2) = m1 - m2 := IntWalk.i64_in _ ⟨by omega, by omega⟩
 clear hp hq
 go_enter Tryz.func49, Tryz.ntmps49
 go_wp2
 refine tail_grown 59 (by kernel_rfl) ?_
 simp only [List.take_succ_cons, List.take_zero, List.drop_succ_cons, List.drop_zero]
 repeat (quiet_step ((first | (go_at_call 44; first | (with_reducible exact c1.quiet) | (with_reducible exact c2.quiet) | (with_reducible exact c3.quiet) | (with_reducible exact c4.quiet)) | (go_at_call 109; exact (cmpI_call _ _).quiet) | (go_at_call 107; first | (with_reducible exact k1.quiet) | (with_reducible exact k2.quiet)))))
 refine wpQuiet_nil ?_
 rintro w' ⟨⟨nq, osq⟩, rfl⟩
 go_wp2_with fail
 refine (or_call _ _ [v1, v2, v3, v4, cmpI p.lf.kind q.lf.kind, cmpI p.lf.sign q.lf.sign, cmpI p.lf.turn q.lf.turn, m1 - m2, cmpI p.lf.state q.lf.state, cmpI p.lf.mn q.lf.mn, cmpI p.lf.mx q.lf.mx] _ (ints_row _ rfl (by simp) (by simp))).mono ?_
 rintro e w' ⟨rfl, hg⟩
 obtain ⟨q', os', rfl⟩ := hg.eq
 go_wp2
 go_ret
 exact ⟨ret_int HT.out.symm, gw⟩
end Go.Proofs.OGW
