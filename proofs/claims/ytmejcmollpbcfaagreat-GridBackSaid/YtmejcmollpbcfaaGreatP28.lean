import Derived.Test.YtmejcmollpbcfaaGreatP27
set_option linter.all false
namespace Go.Proofs.OGW
open Go.RowKit Go.Sort OG Go.Shelf Go.PlainAid
theorem eqNode (x y : Nd) (w : World) : (Op.equalIn 10000 51 (nv x) (nv y)).run Tryz.prog w = .ok (decide (x = y)) w := by
 have e : decide (x = y) = ((x.lf.kind == y.lf.kind) && ((x.depth == y.depth) && ((x.lf.sign == y.lf.sign) && ((x.lf.turn == y.lf.turn) && ((x.lf.mirror == y.lf.mirror) && ((x.lf.state == y.lf.state) && ((x.lf.mn == y.lf.mn) && ((x.lf.mx == y.lf.mx) && true)))))))) := by
  rw [Bool.eq_iff_iff]
  obtain ⟨⟨_, _, _, _, _, _, _⟩, _⟩ := x
  obtain ⟨⟨_, _, _, _, _, _, _⟩, _⟩ := y
  simp
  constructor
  ·rintro ⟨⟨a, b, c, d, e, f, g⟩, h⟩; exact ⟨a, h, b, c, d, e, f, g⟩
  ·rintro ⟨a, h, b, c, d, e, f, g⟩; exact ⟨⟨a, b, c, d, e, f, g⟩, h⟩
 rw [e, show (10000 : Nat) = 9999 + 1 from rfl, run_equalIn_agg w 9999 51 _ _ (by kernel_rfl) (by kernel_rfl)]
 simp only [Program.fieldsOf, Tryz.underlying51]
 refine eqf_cons (by simp) (part_cell Tryz.isAgg3 rfl w) (part_cell Tryz.isAgg3 rfl w) (eq3 _ _ _ _) ?_
 refine eqf_cons (by simp) (part_cell Tryz.isAgg3 rfl w) (part_cell Tryz.isAgg3 rfl w) (eq3 _ _ _ _) ?_
 refine eqf_cons (by simp) (part_cell Tryz.isAgg3 rfl w) (part_cell Tryz.isAgg3 rfl w) (eq3 _ _ _ _) ?_
 refine eqf_cons (by simp) (part_cell Tryz.isAgg3 rfl w) (part_cell Tryz.isAgg3 rfl w) (eq3 _ _ _ _) ?_
 refine eqf_cons (by simp) (part_cell Tryz.isAgg4 rfl w) (part_cell Tryz.isAgg4 rfl w) (eq4 _ _ _ _) ?_
 refine eqf_cons (by simp) (part_cell Tryz.isAgg3 rfl w) (part_cell Tryz.isAgg3 rfl w) (eq3 _ _ _ _) ?_
 exact tZ59
theorem eq51 (x y : Value) : binOp .eql 51 x y = eqlV 51 x y := rfl
theorem ne51 (x y : Value) : binOp .neq 51 x y = neqV 51 x y := rfl
def nodeNe (k d s t : Int) (m : Bool) (st a b k' d' s' t' : Int) (m' : Bool) (st' a' b' : Int) : Bool := !decide ((⟨⟨k, s, t, m, st, a, b⟩, d⟩ : Nd) = ⟨⟨k', s', t', m', st', a', b'⟩, d'⟩)
theorem neqN (k d s t : Int) (m : Bool) (st a b k' d' s' t' : Int) (m' : Bool) (st' a' b' : Int) (w : World) :
 (neqV 51 (.agg #[.int .i64 k, .int .i64 d, .int .i64 s, .int .i64 t, .bool m, .int .i64 st, .int .i64 a, .int .i64 b]) (.agg #[.int .i64 k', .int .i64 d', .int .i64 s', .int .i64 t', .bool m', .int .i64 st', .int .i64 a', .int .i64 b'])).run Tryz.prog w = .ok (.bool (nodeNe k d s t m st a b k' d' s' t' m' st' a' b')) w := by
 have := eqNode ⟨⟨k, s, t, m, st, a, b⟩, d⟩ ⟨⟨k', s', t', m', st', a', b'⟩, d'⟩ w
 rw [neqV, run_neq_struct]
 simp only [nv] at this
 rw [this]
 rfl
theorem guard51 (op : BinOp) (x y : Operand) (xs ys : Array Value) (w : World) : (eqGuard op 51 x y (.agg xs) (.agg ys)).run Tryz.prog w = .ok () w := run_eqGuard_agg w op 51 x y xs ys (by kernel_rfl)
def topN (ns : List Nd) : Nat → Int
 | 0 => 0
 | i + 1 => match ns[i]? with | some p => if leafB p then p.depth else p.depth + 1 | none => 0
def nodeE (l : List Sg) (top : Int) (n : Nd) : Int :=
 if n.lf.kind < 1 ∨ 7 < n.lf.kind then 20
 else if n.depth < 0 ∨ 4 < n.depth ∨ top < n.depth then 21
 else if n.lf.kind = 1 then
  if n.lf.sign < 0 then 23 else match l[n.lf.sign.toNat]? with
   | none => 23
   | some s => if n.lf.turn < 0 ∨ 3 < n.lf.turn ∨ n.lf.state < 0 ∨ 3 < n.lf.state ∨ (n.lf.mirror = true ∧ s.flag = true) then 20
      else if n.lf.mn ≠ 0 ∨ n.lf.mx ≠ 0 then 20 else 0
 else if n.lf.kind = 6 then if n.lf.mn < 0 ∨ n.lf.mx < n.lf.mn ∨ 9 < n.lf.mx ∨ n.lf.mx < 1 then 22 else if n.lf.sign ≠ 0 ∨ n.lf.turn ≠ 0 ∨ n.lf.mirror = true ∨ n.lf.state ≠ 0 then 20 else 0
 else if n.lf.sign = 0 ∧ n.lf.turn = 0 ∧ n.lf.mirror = false ∧ n.lf.state = 0 ∧ n.lf.mn = 0 ∧ n.lf.mx = 0 then 0 else 20
end Go.Proofs.OGW
