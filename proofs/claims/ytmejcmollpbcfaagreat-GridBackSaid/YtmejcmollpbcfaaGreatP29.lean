import Derived.Test.YtmejcmollpbcfaaGreatP21
set_option linter.all false
namespace Go.Proofs.OGW
open Go.RowKit Go.Sort
inductive Plan where
 | done
 | pure (i : Nat) (p : Plan)
 | take (i : Nat) (p : Plan)
 | one (i : Nat) (p : Plan)
 | two (i : Nat) (p : Plan) (j : Nat) (q : Plan)
def Plan.len : Plan → Nat
 | .done => 0
 | .pure _ p => p.len + 1
 | .take _ p => p.len + 1
 | .one _ p => p.len + 1
 | .two _ p _ _ => p.len + 1
def planB (md : Region.Mode) (ops : Array Oper) (E : List Nat) : Plan → Array Bool → Bool
 | .done, listed => decide (Region.ready md ops listed = [])
 | .pure i p, listed => (Region.ready md ops listed).contains i && Region.free md ops listed i && !E.contains i && planB md ops E p (listed.setIfInBounds i true)
 | .take k p, listed => decide (listed.size = ops.size) && ((Region.ready md ops listed).contains k && Region.free md ops listed k && waitB md ops k (clo md ops k) && (clo md ops k).all (fun t => !listed.getD t true) &&
    (List.range ops.size).all (fun j => listed.getD j true || j == k || (clo md ops k).contains j || E.contains j)) && planB md ops E p (listed.setIfInBounds k true)
 | .one i p, listed => decide (Region.ready md ops listed = [i]) && planB md ops E p (listed.setIfInBounds i true)
 | .two i p j q, listed => decide (Region.ready md ops listed = [i, j]) && decide (p.len = q.len) && planB md ops E p (listed.setIfInBounds i true) && planB md ops E q (listed.setIfInBounds j true)
def stepPl (P : Program) (ops : Array Oper) (Q : Exit → Act → World → Prop) (i : Nat) (K : Act → World → Prop) (a : Act) (w : World) : Prop := wpOp P ops Q i K a w
def planW (P : Program) (ops : Array Oper) (Q : Exit → Act → World → Prop) (C : World → Prop) (E : List Nat) (R : Act → World → Prop) : Plan → Act → World → Prop
 | .done, a, w => R a w
 | .pure i p, a, w => match ops[i]? with
   | some o => if Region.wanted o (yielded ops a.tmps) then ∃ v, (∀ w, (execOp a.eval o).run P w = .ok (.value v) w) ∧ planW P ops Q C E R p (a.put o.dst v) w else planW P ops Q C E R p (a.put o.dst undef) w
   | none => False
 | .take i p, a, w => C w ∧ match ops[i]? with
   | some o => if Region.wanted o (yielded ops a.tmps) then ∃ v, (∀ w, C w → (execOp a.eval o).run P w = .ok (.value v) w) ∧ planW P ops Q C E R p (a.put o.dst v) w else planW P ops Q C E R p (a.put o.dst undef) w
   | none => False
 | .one i p, a, w => stepPl P ops Q i (fun a' w' => (i ∈ E → C w') ∧ planW P ops Q C E R p a' w') a w
 | .two i p j q, a, w => stepPl P ops Q i (fun a' w' => (i ∈ E → C w') ∧ planW P ops Q C E R p a' w') a w ∧ stepPl P ops Q j (fun a' w' => (j ∈ E → C w') ∧ planW P ops Q C E R q a' w') a w
section
variable {P : Program} {ops : Array Oper} {Q : Exit → Act → World → Prop} {C : World → Prop} {E : List Nat} {R : Act → World → Prop}
theorem planW_pure {i : Nat} {p : Plan} {o : Oper} {a : Act} {w : World} (hi : ops[i]? = some o) (hg : o.guard = none) (v : Value) (hv : ∀ w, (execOp a.eval o).run P w = .ok (.value v) w) (h : planW P ops Q C E R p (a.put o.dst v) w) : planW P ops Q C E R (.pure i p) a w := by
 simp only [planW, hi]
 rw [if_pos (by unfold Region.wanted; rw [hg])]
 exact ⟨v, hv, h⟩
theorem planW_take {i : Nat} {p : Plan} {o : Oper} {a : Act} {w : World} (hi : ops[i]? = some o) (hg : o.guard = none) (hw : C w) (v : Value) (hv : ∀ w, C w → (execOp a.eval o).run P w = .ok (.value v) w) (h : planW P ops Q C E R p (a.put o.dst v) w) : planW P ops Q C E R (.take i p) a w := by
 simp only [planW, hi]
 rw [if_pos (by unfold Region.wanted; rw [hg])]
 exact ⟨hw, v, hv, h⟩
theorem stepPl_of {i : Nat} {o : Oper} {p : Plan} {a : Act} {w : World} (hi : ops[i]? = some o) (hg : o.guard = none) (h : ∀ K : Act → World → Prop, Hid (∀ a' w', (i ∈ E → C w') → planW P ops Q C E R p a' w' → K a' w') → o.wp P a w K Q) : stepPl P ops Q i (fun a' w' => (i ∈ E → C w') ∧ planW P ops Q C E R p a' w') a w := by
 simp only [stepPl, wpOp, hi]
 exact tZ79
theorem planW_pure_step {i : Nat} {p : Plan} {o : Oper} {a : Act} {w : World} (hi : ops[i]? = some o) (hg : o.guard = none) (h : ∀ K : Act → Prop, (∀ a, planW P ops Q C E R p a w → K a) → ∃ v, (∀ w, (execOp a.eval o).run P w = .ok (.value v) w) ∧ K (a.put o.dst v)) : planW P ops Q C E R (.pure i p) a w := by
 obtain ⟨v, hv, hK⟩ := h _ (fun _ h => h)
 exact planW_pure hi hg v hv hK
theorem planW_one {i : Nat} {o : Oper} {p : Plan} {a : Act} {w : World} (hi : ops[i]? = some o) (hg : o.guard = none) (h : ∀ K : Act → World → Prop, Hid (∀ a' w', (i ∈ E → C w') → planW P ops Q C E R p a' w' → K a' w') → o.wp P a w K Q) : planW P ops Q C E R (.one i p) a w := by
 simp only [planW]
 exact stepPl_of hi hg h
theorem planW_two {i j : Nat} {o u : Oper} {p q : Plan} {a : Act} {w : World} (hi : ops[i]? = some o) (hg : o.guard = none) (hj : ops[j]? = some u) (hgj : u.guard = none) (h : ∀ K : Act → World → Prop, Hid (∀ a' w', (i ∈ E → C w') → planW P ops Q C E R p a' w' → K a' w') → o.wp P a w K Q)
 (h2 : ∀ K : Act → World → Prop, Hid (∀ a' w', (j ∈ E → C w') → planW P ops Q C E R q a' w' → K a' w') → u.wp P a w K Q) : planW P ops Q C E R (.two i p j q) a w := by
 simp only [planW]
 exact ⟨stepPl_of hi hg h, stepPl_of hj hgj h2⟩
theorem plan_any {hsel : Region.noSelect ops = true} (hQ : ∀ (d : Option Tmp) (v : Value) c (a : Act) w, Q (.panic c) (a.put d v) w → Q (.panic c) a w) (hR : ∀ a w, R a w → Q .normal a w) :
 ∀ (p : Plan) (listed : Array Bool) (a : Act) (w : World), planB .any ops E p listed = true → planW P ops Q C E R p a w → wpAnyF P .any ops Q C E p.len listed a w
 | .done, listed, a, w, hB, h => ⟨by simpa [planB] using hB, hR a w h⟩
 | .pure i p, listed, a, w, hB, h => by
   simp only [planB, Bool.and_eq_true, Bool.not_eq_true', List.contains_eq_mem, decide_eq_true_eq, decide_eq_false_iff_not] at hB
   obtain ⟨⟨⟨hr, hf⟩, hE⟩, hB⟩ := hB
   simp only [planW] at h
   cases h0 : ops[i]? with
   | none => rw [h0] at h; exact h.elim
   | some o =>
     rw [h0] at h
     simp only at h
     have step : ∀ v, YieldsIf P ops (fun _ => True) o v a → planW P ops Q C E R p (a.put o.dst v) w → wpAnyF P .any ops Q C E (p.len + 1) listed a w := fun v hy H =>
      F_first (D := fun _ => True) (X := []) h0 (Region.noSelect_spec hsel) (fun c a w => hQ o.dst v c a w) (by simp) (fun w _ h => absurd h hE) p.len listed a w (Region.free_spec h0 hf) (by simp) (fun _ _ _ _ _ _ => trivial) hr hy trivial (plan_any (hsel := hsel) hQ hR p _ _ w hB H)
     split at h
     ·rename_i hw
      obtain ⟨v, hv, hK⟩ := h
      exact step v (.inl ⟨hw, fun w _ => hv w⟩) hK
     ·rename_i hw
      exact step undef (.inr ⟨by simpa using hw, rfl⟩) h
 | .take k p, listed, a, w, hB, h => by
   simp only [planB, Bool.and_eq_true, decide_eq_true_eq, List.contains_eq_mem] at hB
   obtain ⟨⟨hsz, ⟨⟨⟨hr, hf⟩, hwt⟩, hun⟩, hall⟩, hB⟩ := hB
   simp only [planW] at h
   obtain ⟨hC, h⟩ := h
   cases h0 : ops[k]? with
   | none => rw [h0] at h; exact h.elim
   | some o =>
     rw [h0] at h
     simp only at h
     have hX : ∀ t ∈ clo .any ops k, ∃ j, (j = k ∨ j ∈ clo .any ops k) ∧ Region.waitsFor .any ops t j = true := fun t ht => by
      obtain ⟨j, hj, hw⟩ := List.any_eq_true.1 (List.all_eq_true.1 hwt t ht)
      exact ⟨j, List.mem_cons.1 hj, hw⟩
     have hun' : ∀ t ∈ clo .any ops k, listed.getD t true = false := fun t ht => by simpa using List.all_eq_true.1 hun t ht
     have hrest : ∀ j, listed.getD j true = false → j ≠ k → j ∉ clo .any ops k → ∀ w, (j ∈ E → C w) → C w := fun j hj hji hjX w hE => by
      have hlt : j < ops.size := by
       rcases Nat.lt_or_ge j ops.size with h | h
       ·exact h
       ·simp [Array.getD, show ¬ j < listed.size by omega] at hj
      have := List.all_eq_true.1 hall j (List.mem_range.2 hlt)
      simp only [Bool.or_eq_true, beq_iff_eq, decide_eq_true_eq] at this
      rcases this with ((h | h) | h) | h
      ·rw [hj] at h; cases h
      ·exact absurd h hji
      ·exact absurd h hjX
      ·exact hE h
     have step : ∀ v, YieldsIf P ops C o v a → planW P ops Q C E R p (a.put o.dst v) w → wpAnyF P .any ops Q C E (p.len + 1) listed a w := fun v hy H =>
      F_first (D := C) (X := clo .any ops k) h0 (Region.noSelect_spec hsel) (fun c a w => hQ o.dst v c a w) hX (fun w h _ => h) p.len listed a w (Region.free_spec h0 hf) hun' hrest hr hy hC (plan_any (hsel := hsel) hQ hR p _ _ w hB H)
     split at h
     ·rename_i hw
      obtain ⟨v, hv, hK⟩ := h
      exact step v (.inl ⟨hw, hv⟩) hK
     ·rename_i hw
      exact step undef (.inr ⟨by simpa using hw, rfl⟩) h
 | .one i p, listed, a, w, hB, h => by
   simp only [planB, Bool.and_eq_true, decide_eq_true_eq] at hB
   obtain ⟨hr, hB⟩ := hB
   refine ⟨fun h1 => (by rw [hr] at h1; cases h1), fun k hk => ?_⟩
   rw [hr] at hk
   obtain rfl := List.mem_singleton.1 hk
   have h1 : wpOp P ops Q k (fun a' w' => (k ∈ E → C w') ∧ planW P ops Q C E R p a' w') a w := by simpa only [planW, stepPl] using h
   exact wpOp_mono (fun a' w' h' => ⟨h'.1, plan_any (hsel := hsel) hQ hR p _ a' w' hB h'.2⟩) h1
 | .two i p j q, listed, a, w, hB, h => by
   simp only [planB, Bool.and_eq_true, decide_eq_true_eq] at hB
   obtain ⟨⟨⟨hr, hl⟩, hB1⟩, hB2⟩ := hB
   refine ⟨fun h1 => (by rw [hr] at h1; cases h1), fun k hk => ?_⟩
   rw [hr] at hk
   rcases List.mem_cons.1 hk with rfl | hk
   ·exact wpOp_mono (fun a' w' h' => ⟨h'.1, plan_any (hsel := hsel) hQ hR p _ a' w' hB1 h'.2⟩) h.1
   ·obtain rfl := List.mem_singleton.1 hk
    refine wpOp_mono (fun a' w' h' => ⟨h'.1, ?_⟩) h.2
    rw [show p.len = q.len from hl]
    exact plan_any (hsel := hsel) hQ hR q _ a' w' hB2 h'.2
theorem region_plan {id : Nat} {l : List Oper} {a : Act} {w : World} (p : Plan) (C : World → Prop) (E : List Nat) (R : Act → World → Prop) (hm : P.follows .mixedOrders = true)
 (hB : (Region.noSelect l.toArray && decide (p.len = l.length) && planB .any l.toArray E p (Array.replicate l.length false)) = true)
 (hQ : ∀ (d : Option Tmp) (v : Value) c (a : Act) w, Q (.panic c) (a.put d v) w → Q (.panic c) a w) (hR : ∀ a w, R a w → Q .normal a w)
 (h : planW P l.toArray Q C E R p a { w with drawn := w.drawn + 1 }) : (Code.region id l.toArray true).wp P Q a w := by
 simp only [Bool.and_eq_true, decide_eq_true_eq] at hB
 obtain ⟨⟨hsel, hl⟩, hB⟩ := hB
 refine wp_region_any hm (any_of_F (C := C) (E := E) _ _ _ _ ?_)
 have := plan_any (hsel := hsel) (Q := Q) hQ hR p (Array.replicate l.length false) a _ hB h
 rw [hl] at this
 simpa using this
end
def Bel (w w' : World) : Prop := Below w.heap.size w w'
theorem Bel.refl (w : World) : Bel w w := Below.refl _ _
theorem Bel.trans {a b c : World} (h : Bel a b) (k : Bel b c) : Bel a c := Below.trans h (Below.mono k (Below.size h))
theorem Gr.bel {w w' : World} (h : Gr w w') : Bel w w' := h.b
theorem Bel.cell {w w' : World} (h : Bel w w') {a : Addr} {v : Value} (hc : w.cell? a = some v) : w'.cell? a = some v := by
 have hl := lcc w _ hc
 exact (World.cell?_of_block (a := a) (Below.block h a.block hl)).trans hc
end Go.Proofs.OGW
namespace OG
mutual
def roseT : Tree → Rose
 | .leaf l => .mk l []
 | .over a b => .mk (bare 4) [.mk a [], .mk b []]
 | .beside ks => .mk (bare 2) (rosesT ks)
 | .above ks => .mk (bare 3) (rosesT ks)
def rosesT : List Tree → List Rose
 | [] => []
 | t :: r => roseT t :: rosesT r
end
def Grp.rose : Grp → Rose
 | .tree t => roseT t
 | .hon ks => .mk (bare 7) (rosesT ks)
 | .ring ks => .mk (bare 5) (rosesT ks)
 | .rhon ks => .mk (bare 5) [.mk (bare 7) (rosesT ks)]
def rosesG : List Grp → List Rose
 | [] => []
 | g :: r => g.rose :: rosesG r
mutual
theorem flat_rose : ∀ (d : Int) (t : Tree), flatR d (roseT t) = flat d t
 | d, .leaf l => rfl
 | d, .over a b => by simp [roseT, flatR, flatRs, flat]
 | d, .beside ks => by rw [roseT, flatR, flats_rose (d + 1) ks, flat]
 | d, .above ks => by rw [roseT, flatR, flats_rose (d + 1) ks, flat]
theorem flats_rose : ∀ (d : Int) (ks : List Tree), flatRs d (rosesT ks) = flats d ks
 | d, [] => rfl
 | d, t :: r => by rw [rosesT, flatRs, flat_rose d t, flats_rose d r, flats]
end
theorem rosesT_len : ∀ ks : List Tree, (rosesT ks).length = ks.length
 | [] => rfl
 | t :: r => by rw [rosesT, List.length_cons, rosesT_len r, List.length_cons]
theorem flat_roseG (g : Grp) : flatR 0 g.rose = g.flat := by
 cases g with
 | tree t => exact flat_rose 0 t
 | hon ks => simp only [Grp.rose, flatR, Grp.flat, flats_rose]; rfl
 | ring ks => simp only [Grp.rose, flatR, Grp.flat, flats_rose]; rfl
 | rhon ks => simp only [Grp.rose, flatR, flatRs, Grp.flat, flats_rose, List.append_nil]; rfl
theorem flats_roseG : ∀ gs : List Grp, flatRs 0 (rosesG gs) = flatG gs
 | [] => rfl
 | g :: r => by rw [rosesG, flatRs, flat_roseG, flats_roseG r, flatG]
theorem kind_rose {G : Lf → Prop} {d : Int} {t : Tree} (h : TreeOk G d t) : (roseT t).lf.kind ≠ 5 ∧ (roseT t).lf.kind ≠ 7 ∧ ((roseT t).lf.kind = 2 → isBeside t = true) ∧ ((roseT t).lf.kind = 3 → isAbove t = true) := by
 cases t with
 | leaf f =>
   have h1 : f.kind = 1 ∨ f.kind = 6 := h.2.1
   have e : (roseT (.leaf f)).lf = f := rfl
   rw [e]
   refine ⟨by omega, by omega, fun _ => by omega, fun _ => by omega⟩
 | over a b => exact ⟨by simp [roseT, Rose.lf, bare], by simp [roseT, Rose.lf, bare], by simp [roseT, Rose.lf, bare], by simp [roseT, Rose.lf, bare]⟩
 | beside ks => exact ⟨by simp [roseT, Rose.lf, bare], by simp [roseT, Rose.lf, bare], fun _ => rfl, by simp [roseT, Rose.lf, bare]⟩
 | above ks => exact ⟨by simp [roseT, Rose.lf, bare], by simp [roseT, Rose.lf, bare], by simp [roseT, Rose.lf, bare], fun _ => rfl⟩
theorem mem_rosesT : ∀ {ks : List Tree} {r : Rose}, r ∈ rosesT ks → ∃ t ∈ ks, r = roseT t
 | [], r, h => by cases h
 | t :: ts, r, h => by
   rcases List.mem_cons.1 h with rfl | h
   ·exact ⟨t, by simp, rfl⟩
   ·obtain ⟨u, h1, h2⟩ := mem_rosesT h
    exact ⟨u, by simp [h1], h2⟩
theorem kinds_no {G : Lf → Prop} {d : Int} {ks : List Tree} (h : TreesOk G d ks) : 5 ∉ (rosesT ks).map (fun k => k.lf.kind) ∧ 7 ∉ (rosesT ks).map (fun k => k.lf.kind) ∧
 ((∀ t ∈ ks, isBeside t = false) → 2 ∉ (rosesT ks).map (fun k => k.lf.kind)) ∧ ((∀ t ∈ ks, isAbove t = false) → 3 ∉ (rosesT ks).map (fun k => k.lf.kind)) := by
 have key : ∀ x ∈ (rosesT ks).map (fun k => k.lf.kind), ∃ t ∈ ks, x = (roseT t).lf.kind ∧ TreeOk G d t := by
  intro x hx
  obtain ⟨r, hr, rfl⟩ := List.mem_map.1 hx
  obtain ⟨t, ht, rfl⟩ := mem_rosesT hr
  exact ⟨t, ht, rfl, h.all t ht⟩
 refine ⟨fun h5 => ?_, fun h7 => ?_, fun hb h2 => ?_, fun hb h3 => ?_⟩
 ·obtain ⟨t, _, e, ho⟩ := key _ h5
  exact (kind_rose ho).1 e.symm
 ·obtain ⟨t, _, e, ho⟩ := key _ h7
  exact (kind_rose ho).2.1 e.symm
 ·obtain ⟨t, ht, e, ho⟩ := key _ h2
  have := (kind_rose ho).2.2.1 e.symm
  rw [hb t ht] at this
  cases this
 ·obtain ⟨t, ht, e, ho⟩ := key _ h3
  have := (kind_rose ho).2.2.2 e.symm
  rw [hb t ht] at this
  cases this
theorem loc_bare {G : Lf → Prop} {d k : Int} (h0 : 0 ≤ d) (h4 : d ≤ 4) (h1 : 2 ≤ k) (h6 : k ≠ 6) (h7 : k ≤ 7) : Loc G d (bare k) :=
 ⟨h0, h4, by show 1 ≤ k; omega, h7, fun h => by have : k = 1 ∨ k = 6 := h; omega, fun _ _ => rfl⟩
theorem loc_leaf {G : Lf → Prop} {d : Int} {f : Lf} (h0 : 0 ≤ d) (h4 : d ≤ 4) (hk : f.kind = 1 ∨ f.kind = 6) (hg : G f) : Loc G d f :=
 ⟨h0, h4, by omega, by omega, fun _ => hg, fun a b => by omega⟩
theorem cv_leaf {G : Lf → Prop} {q : Par} {d : Int} {f : Lf} (h0 : 0 ≤ d) (h4 : d ≤ 4) (hk : f.kind = 1 ∨ f.kind = 6) (hg : G f) : CV G q d f [] :=
 ⟨⟨loc_leaf h0 h4 hk hg, fun _ => rfl, fun e => by omega, fun e => by omega, fun e => by omega, fun e => by omega, fun e => by omega⟩, fun _ => by simp, fun e => by omega⟩
section
variable {G : Lf → Prop}
mutual
theorem cv_tree : ∀ (t : Tree) (i : Nat) (q : Par) (d : Int), 0 ≤ d → TreeOk G d t → RAll (CV G) i q d (roseT t)
 | .leaf f, i, q, d, h0, h => ⟨cv_leaf h0 h.2.2 h.2.1 h.1, trivial⟩
 | .over a b, i, q, d, h0, h => by
   obtain ⟨ha, hb, ka, kb, hd⟩ := h
   refine ⟨⟨⟨loc_bare h0 (by omega) (by decide) (by decide) (by decide), fun e => ?_, fun e => ?_, fun e => ?_, fun _ => ?_, fun e => ?_, fun e => ?_⟩, fun _ => ?_, fun e => ?_⟩, ?_, ?_, trivial⟩
   ·have : (4 : Int) = 1 ∨ (4 : Int) = 6 := e; omega
   ·have : (4 : Int) = 2 := e; omega
   ·have : (4 : Int) = 3 := e; omega
   ·simp [Rose.lf, ka, kb]
   ·have : (4 : Int) = 5 := e; omega
   ·have : (4 : Int) = 7 := e; omega
   ·simp [Rose.lf, ka, kb]
   ·have : (4 : Int) = 7 := e; omega
   ·exact ⟨cv_leaf (by omega) (by omega) (.inl ka) ha, trivial⟩
   ·exact ⟨cv_leaf (by omega) (by omega) (.inl kb) hb, trivial⟩
 | .beside ks, i, q, d, h0, h => by
   have h4 := h.deep
   obtain ⟨h1, h2, h3, hk⟩ := h
   obtain ⟨n5, n7, n2, n3⟩ := kinds_no hk
   refine ⟨⟨⟨loc_bare h0 h4 (by decide) (by decide) (by decide), fun e => ?_, fun _ => ?_, fun e => ?_, fun e => ?_, fun e => ?_, fun e => ?_⟩, fun _ => n7, fun e => ?_⟩, ?_⟩
   ·have : (2 : Int) = 1 ∨ (2 : Int) = 6 := e; omega
   ·rw [List.length_map, rosesT_len]; exact ⟨h1, h2, n2 h3⟩
   ·have : (2 : Int) = 3 := e; omega
   ·have : (2 : Int) = 4 := e; omega
   ·have : (2 : Int) = 5 := e; omega
   ·have : (2 : Int) = 7 := e; omega
   ·have : (2 : Int) = 7 := e; omega
   ·exact cv_trees ks _ _ (d + 1) (by omega) hk
 | .above ks, i, q, d, h0, h => by
   have h4 := h.deep
   obtain ⟨h1, h2, h3, hk⟩ := h
   obtain ⟨n5, n7, n2, n3⟩ := kinds_no hk
   refine ⟨⟨⟨loc_bare h0 h4 (by decide) (by decide) (by decide), fun e => ?_, fun e => ?_, fun _ => ?_, fun e => ?_, fun e => ?_, fun e => ?_⟩, fun _ => n7, fun e => ?_⟩, ?_⟩
   ·have : (3 : Int) = 1 ∨ (3 : Int) = 6 := e; omega
   ·have : (3 : Int) = 2 := e; omega
   ·rw [List.length_map, rosesT_len]; exact ⟨h1, h2, n3 h3⟩
   ·have : (3 : Int) = 4 := e; omega
   ·have : (3 : Int) = 5 := e; omega
   ·have : (3 : Int) = 7 := e; omega
   ·have : (3 : Int) = 7 := e; omega
   ·exact cv_trees ks _ _ (d + 1) (by omega) hk
theorem cv_trees : ∀ (ks : List Tree) (i : Nat) (q : Par) (d : Int), 0 ≤ d → TreesOk G d ks → RsAll (CV G) i q d (rosesT ks)
 | [], _, _, _, _, _ => trivial
 | t :: r, i, q, d, h0, h => ⟨cv_tree t i q d h0 h.1, cv_trees r _ q d h0 h.2⟩
end
theorem cv_hon {ks : List Tree} {q : Par} {d : Int} (h0 : 0 ≤ d) (h4 : d ≤ 1) (hq : 0 < d → q.kind = 5 ∧ q.many = 1) (h1 : 2 ≤ ks.length) (h2 : ks.length ≤ 6) (h3 : ∀ t ∈ ks, isBeside t = false) (hk : TreesOk G (d + 1) ks) (i : Nat) :
 RAll (CV G) i q d (.mk (bare 7) (rosesT ks)) := by
 obtain ⟨n5, n7, n2, n3⟩ := kinds_no hk
 refine ⟨⟨⟨loc_bare h0 (by omega) (by decide) (by decide) (by decide), fun e => ?_, fun e => ?_, fun e => ?_, fun e => ?_, fun e => ?_, fun _ => ?_⟩, fun _ => n7, fun _ hd => (hq hd).2⟩, ?_⟩
 ·have : (7 : Int) = 1 ∨ (7 : Int) = 6 := e; omega
 ·have : (7 : Int) = 2 := e; omega
 ·have : (7 : Int) = 3 := e; omega
 ·have : (7 : Int) = 4 := e; omega
 ·have : (7 : Int) = 5 := e; omega
 ·rw [List.length_map, rosesT_len]; exact ⟨h1, h2, n2 h3, n7, fun hd => (hq hd).1⟩
 ·exact cv_trees ks _ _ (d + 1) (by omega) hk
theorem cv_ring {rs : List Rose} {q : Par} (i : Nat) (h1 : 1 ≤ rs.length) (h2 : rs.length ≤ 6) (h3 : 2 ∉ rs.map fun k => k.lf.kind) (h7 : 7 ∈ (rs.map fun k => k.lf.kind) → rs.length = 1) (hk : RsAll (CV G) (i + 1) ⟨i, 5, rs.length⟩ (0 + 1) rs) :
 RAll (CV G) i q 0 (.mk (bare 5) rs) := by
 refine ⟨⟨⟨loc_bare (by omega) (by omega) (by decide) (by decide) (by decide), fun e => ?_, fun e => ?_, fun e => ?_, fun e => ?_, fun _ => ?_, fun e => ?_⟩, fun e => absurd rfl e, fun e => ?_⟩, hk⟩
 ·have : (5 : Int) = 1 ∨ (5 : Int) = 6 := e; omega
 ·have : (5 : Int) = 2 := e; omega
 ·have : (5 : Int) = 3 := e; omega
 ·have : (5 : Int) = 4 := e; omega
 ·rw [List.length_map]; exact ⟨h1, h2, h3, rfl, h7⟩
 ·have : (5 : Int) = 7 := e; omega
 ·have : (5 : Int) = 7 := e; omega
theorem cv_grp (g : Grp) (i : Nat) (q : Par) (h : GrpOk G g) : RAll (CV G) i q 0 g.rose := by
 cases g with
 | tree t => exact cv_tree t i q 0 (by omega) h
 | hon ks => exact cv_hon (by omega) (by omega) (fun e => by omega) h.1 h.2.1 h.2.2.1 h.2.2.2 i
 | ring ks =>
   obtain ⟨n5, n7, n2, n3⟩ := kinds_no h.2.2.2
   exact cv_ring i (by rw [rosesT_len]; exact h.1) (by rw [rosesT_len]; exact h.2.1) (n2 h.2.2.1) (fun e => absurd e n7) (cv_trees ks _ _ 1 (by omega) h.2.2.2)
 | rhon ks =>
   refine cv_ring i (by simp) (by simp) (by simp [Rose.lf, bare]) (fun _ => rfl) ⟨cv_hon (by omega) (by omega) (fun _ => ⟨rfl, rfl⟩) h.1 h.2.1 h.2.2.1 h.2.2.2 _, trivial⟩
theorem cv_grps : ∀ (gs : List Grp) (i : Nat) (q : Par), (∀ g ∈ gs, GrpOk G g) → RsAll (CV G) i q 0 (rosesG gs)
 | [], _, _, _ => trivial
 | g :: r, i, q, h => ⟨cv_grp g i q (h g (by simp)), cv_grps r _ q (fun x hx => h x (by simp [hx]))⟩
end
mutual
theorem RAll.mono {C D : Par → Int → Lf → List Int → Prop} (h : ∀ q d f kk, C q d f kk → D q d f kk) : ∀ (r : Rose) (i : Nat) (q : Par) (d : Int), RAll C i q d r → RAll D i q d r
 | .mk f ks, i, q, d, k => ⟨h _ _ _ _ k.1, RsAll.mono h ks _ _ _ k.2⟩
theorem RsAll.mono {C D : Par → Int → Lf → List Int → Prop} (h : ∀ q d f kk, C q d f kk → D q d f kk) : ∀ (ks : List Rose) (i : Nat) (q : Par) (d : Int), RsAll C i q d ks → RsAll D i q d ks
 | [], _, _, _, _ => trivial
 | r :: rs, i, q, d, k => ⟨RAll.mono h r i q d k.1, RsAll.mono h rs _ q d k.2⟩
end
def unhon (f : Lf) : Lf := if f.kind = 7 then { f with kind := 2 } else f
def plainP : Int → List Nd → List Nd
 | _, [] => []
 | less, n :: r => if n.depth = 0 then ⟨unhon n.lf, n.depth - 0⟩ :: plainP 0 r
    else if n.lf.kind = 7 then plainP 1 r
    else ⟨n.lf, n.depth - less⟩ :: plainP less r
def plainR : Bool → List Nd → List Nd
 | _, [] => []
 | ins, n :: r => if n.lf.kind = 7 ∧ n.depth = 1 then plainR true r
    else ⟨unhon n.lf, if (if n.depth = 0 then false else ins) = true then n.depth - 1 else n.depth⟩ :: plainR (if n.depth = 0 then false else ins) r
def low (d : Int) (l : List Nd) : List Nd := l.map fun n => ⟨n.lf, n.depth - d⟩
theorem plainP_deep (less : Int) : ∀ (l rest : List Nd), (∀ n ∈ l, 0 < n.depth ∧ n.lf.kind ≠ 7) → plainP less (l ++ rest) = low less l ++ plainP less rest
 | [], rest, _ => rfl
 | n :: l, rest, h => by
   have h1 := h n (by simp)
   rw [List.cons_append, plainP, if_neg (by omega), if_neg h1.2, plainP_deep less l rest (fun m hm => h m (by simp [hm]))]
   rfl
theorem plainR_deep (ins : Bool) : ∀ (l rest : List Nd), (∀ n ∈ l, 0 < n.depth ∧ n.lf.kind ≠ 7) → plainR ins (l ++ rest) = low (if ins then 1 else 0) l ++ plainR ins rest
 | [], rest, _ => rfl
 | n :: l, rest, h => by
   have h1 := h n (by simp)
   have hd : ¬ n.depth = 0 := by omega
   rw [List.cons_append, plainR, if_neg (fun e => h1.2 e.1)]
   simp only [hd, if_false]
   rw [plainR_deep ins l rest (fun m hm => h m (by simp [hm]))]
   unfold unhon
   rw [if_neg h1.2]
   cases ins <;> simp [low]
mutual
theorem flat_kind {G : Lf → Prop} : ∀ (d : Int) (t : Tree), TreeOk G d t → ∀ n ∈ flat d t, n.lf.kind ≠ 7
 | d, .leaf l, h, n, hn => by
   simp only [flat, List.mem_singleton] at hn
   subst hn
   have : l.kind = 1 ∨ l.kind = 6 := h.2.1
   show l.kind ≠ 7
   omega
 | d, .over a b, h, n, hn => by
   obtain ⟨_, _, ka, kb, _⟩ := h
   simp only [flat, List.mem_cons, List.not_mem_nil, or_false] at hn
   rcases hn with rfl | rfl | rfl
   ·simp [bare]
   ·show a.kind ≠ 7; omega
   ·show b.kind ≠ 7; omega
 | d, .beside ks, h, n, hn => by
   simp only [flat, List.mem_cons] at hn
   rcases hn with rfl | hn
   ·simp [bare]
   ·exact flats_kind (d + 1) ks h.2.2.2 n hn
 | d, .above ks, h, n, hn => by
   simp only [flat, List.mem_cons] at hn
   rcases hn with rfl | hn
   ·simp [bare]
   ·exact flats_kind (d + 1) ks h.2.2.2 n hn
theorem flats_kind {G : Lf → Prop} : ∀ (d : Int) (ks : List Tree), TreesOk G d ks → ∀ n ∈ flats d ks, n.lf.kind ≠ 7
 | d, [], _, n, hn => by simp [flats] at hn
 | d, t :: r, h, n, hn => by
   simp only [flats, List.mem_append] at hn
   rcases hn with hn | hn
   ·exact flat_kind d t h.1 n hn
   ·exact flats_kind d r h.2 n hn
end
mutual
theorem low_flat (e : Int) : ∀ (d : Int) (t : Tree), low e (flat d t) = flat (d - e) t
 | d, .leaf l => rfl
 | d, .over a b => by simp only [flat, low, List.map_cons, List.map_nil]; rw [show d + 1 - e = d - e + 1 by omega]
 | d, .beside ks => by
   have := low_flats e (d + 1) ks
   rw [flat, flat, show d - e + 1 = d + 1 - e by omega, ← this]
   rfl
 | d, .above ks => by
   have := low_flats e (d + 1) ks
   rw [flat, flat, show d - e + 1 = d + 1 - e by omega, ← this]
   rfl
theorem low_flats (e : Int) : ∀ (d : Int) (ks : List Tree), low e (flats d ks) = flats (d - e) ks
 | d, [] => rfl
 | d, t :: r => by
   rw [flats, flats, ← low_flat e d t, ← low_flats e d r]
   unfold low
   rw [List.map_append]
end
theorem low_zero (l : List Nd) : low 0 l = l := by
 unfold low
 rw [List.map_congr_left (g := id) (fun n _ => by obtain ⟨f, d⟩ := n; simp), List.map_id]
theorem deep_flats {G : Lf → Prop} {d : Int} {ks : List Tree} (hd : 0 < d) (h : TreesOk G d ks) : ∀ n ∈ flats d ks, 0 < n.depth ∧ n.lf.kind ≠ 7 :=
 fun n hn => ⟨by have := flats_ge d ks n hn; omega, flats_kind d ks h n hn⟩
theorem unhon_of {f : Lf} (h : f.kind ≠ 7) : unhon f = f := by unfold unhon; rw [if_neg h]
theorem plainP_five (less : Int) (r : List Nd) : plainP less (⟨bare 5, 0⟩ :: r) = ⟨bare 5, 0⟩ :: plainP 0 r := by simp [plainP, unhon, bare]
theorem plainP_seven (less : Int) (r : List Nd) : plainP less (⟨bare 7, 1⟩ :: r) = plainP 1 r := by simp [plainP, bare]
theorem plainR_five (ins : Bool) (r : List Nd) : plainR ins (⟨bare 5, 0⟩ :: r) = ⟨bare 5, 0⟩ :: plainR false r := by simp [plainR, unhon, bare]
theorem plainR_seven (ins : Bool) (r : List Nd) : plainR ins (⟨bare 7, 1⟩ :: r) = plainR true r := by simp [plainR, bare]
theorem plainP_grp {G : Lf → Prop} (g : Grp) (h : GrpOk G g) (less : Int) (rest : List Nd) : ∃ less', plainP less (g.flat ++ rest) = g.plain.flat ++ plainP less' rest := by
 cases g with
 | tree t =>
   obtain ⟨f, tl, e, htl⟩ := flat_cons 0 t
   have hk : ∀ n ∈ flat 0 t, n.lf.kind ≠ 7 := flat_kind 0 t h
   refine ⟨0, ?_⟩
   show plainP less (flat 0 t ++ rest) = flat 0 t ++ _
   rw [e] at hk ⊢
   rw [List.cons_append, plainP, if_pos rfl, plainP_deep 0 tl rest (fun n hn => ⟨htl n hn, hk n (by simp [hn])⟩), low_zero, unhon_of (hk ⟨f, 0⟩ (by simp))]
   rfl
 | hon ks =>
   refine ⟨0, ?_⟩
   show plainP less (⟨bare 7, 0⟩ :: flats 1 ks ++ rest) = (⟨bare 2, 0⟩ :: flats 1 ks) ++ _
   rw [List.cons_append, plainP, if_pos rfl, plainP_deep 0 _ rest (deep_flats (by omega) h.2.2.2), low_zero]
   rfl
 | ring ks =>
   refine ⟨0, ?_⟩
   show plainP less (⟨bare 5, 0⟩ :: flats 1 ks ++ rest) = (⟨bare 5, 0⟩ :: flats 1 ks) ++ _
   rw [List.cons_append, plainP, if_pos rfl, plainP_deep 0 _ rest (deep_flats (by omega) h.2.2.2), low_zero]
   rfl
 | rhon ks =>
   refine ⟨1, ?_⟩
   show plainP less (⟨bare 5, 0⟩ :: ⟨bare 7, 1⟩ :: flats 2 ks ++ rest) = (⟨bare 5, 0⟩ :: flats 1 ks) ++ _
   rw [List.cons_append, List.cons_append, plainP_five, plainP_seven, plainP_deep 1 _ rest (deep_flats (by omega) h.2.2.2), low_flats]
   rfl
theorem tZ90 {P : Prop} (h : P := by
 rw [List.cons_append, plainR, if_neg (by decide)]
 simp only [if_true]
 rw [plainR_deep false _ rest (deep_flats (by omega) h.2.2.2)]
 simp [low_zero, unhon, bare]) : P := h
theorem plainR_grp {G : Lf → Prop} (g : Grp) (h : GrpOk G g) (ins : Bool) (rest : List Nd) : ∃ ins', plainR ins (g.flat ++ rest) = g.plain.flat ++ plainR ins' rest := by
 cases g with
 | tree t =>
   obtain ⟨f, tl, e, htl⟩ := flat_cons 0 t
   have hk : ∀ n ∈ flat 0 t, n.lf.kind ≠ 7 := flat_kind 0 t h
   refine ⟨false, ?_⟩
   show plainR ins (flat 0 t ++ rest) = flat 0 t ++ _
   rw [e] at hk ⊢
   rw [List.cons_append, plainR, if_neg (fun h => absurd h.1 (hk ⟨f, 0⟩ (by simp))), unhon_of (hk ⟨f, 0⟩ (by simp))]
   simp only [if_true]
   rw [plainR_deep false tl rest (fun n hn => ⟨htl n hn, hk n (by simp [hn])⟩)]
   simp [low_zero]
 | hon ks =>
   refine ⟨false, ?_⟩
   show plainR ins (⟨bare 7, 0⟩ :: flats 1 ks ++ rest) = (⟨bare 2, 0⟩ :: flats 1 ks) ++ _
   exact tZ90
 | ring ks =>
   refine ⟨false, ?_⟩
   show plainR ins (⟨bare 5, 0⟩ :: flats 1 ks ++ rest) = (⟨bare 5, 0⟩ :: flats 1 ks) ++ _
   exact tZ90
 | rhon ks =>
   refine ⟨true, ?_⟩
   show plainR ins (⟨bare 5, 0⟩ :: ⟨bare 7, 1⟩ :: flats 2 ks ++ rest) = (⟨bare 5, 0⟩ :: flats 1 ks) ++ _
   rw [List.cons_append, List.cons_append, plainR_five, plainR_seven, plainR_deep true _ rest (deep_flats (by omega) h.2.2.2)]
   simp [low_flats]
theorem plainP_grps {G : Lf → Prop} : ∀ (gs : List Grp) (less : Int), (∀ g ∈ gs, GrpOk G g) → plainP less (flatG gs) = flatG (gs.map Grp.plain)
 | [], _, _ => rfl
 | g :: r, less, h => by
   obtain ⟨l', e⟩ := plainP_grp g (h g (by simp)) less (flatG r)
   rw [flatG, e, plainP_grps r l' (fun x hx => h x (by simp [hx])), List.map_cons, flatG]
theorem plainR_grps {G : Lf → Prop} : ∀ (gs : List Grp) (ins : Bool), (∀ g ∈ gs, GrpOk G g) → plainR ins (flatG gs) = flatG (gs.map Grp.plain)
 | [], _, _ => rfl
 | g :: r, ins, h => by
   obtain ⟨l', e⟩ := plainR_grp g (h g (by simp)) ins (flatG r)
   rw [flatG, e, plainR_grps r l' (fun x hx => h x (by simp [hx])), List.map_cons, flatG]
end OG
