import Derived.OrdersHeld
import Derived.Test.YtmejcmollpbcfaaGreatP00
set_option linter.all false
namespace Go.Proofs.OGW
open Go.RowKit Go.Sort
section
variable {P : Program} {ops : Array Oper} {md : Region.Mode} {C : World → Prop}
def sinkL (md : Region.Mode) (ops : Array Oper) (t : Nat) : List Nat → Bool
 | [] => true
 | i :: r => ((r ++ [t]).any fun j => Region.waitsFor md ops j i) && sinkL md ops t r
def chainL (md : Region.Mode) (ops : Array Oper) : List Nat → Bool
 | t :: u :: r => Region.waitsFor md ops u t && chainL md ops (u :: r)
 | _ => true
def seqL (md : Region.Mode) (ops : Array Oper) : List Nat → Array Bool → Bool
 | [], listed => (Region.ready md ops listed).isEmpty
 | t :: r, listed => decide (Region.ready md ops listed = [t]) && seqL md ops r (listed.setIfInBounds t true)
def headL (md : Region.Mode) (ops : Array Oper) (ts : List Nat) : List Nat → Array Bool → Bool
 | [], listed => seqL md ops ts listed
 | k :: r, listed => (Region.ready md ops listed).contains k && Region.free md ops listed k && headL md ops ts r (listed.setIfInBounds k true)
structure HInv (md : Region.Mode) (ops : Array Oper) (ts : List Nat) (listed : Array Bool) : Prop where
 size : listed.size = ops.size
 closed : ∀ j oj, ops[j]? = some oj → listed.getD j false = true → ∀ e ∈ oj.after, Region.binds md e = true → listed.getD e.on false = true
 tail : ∀ t ∈ ts, listed.getD t true = false
theorem HInv.set {ts : List Nat} {listed : Array Bool} {i : Nat} (inv : HInv md ops ts listed) (hi : i ∈ Region.ready md ops listed) (hin : i ∉ ts) : HInv md ops ts (listed.setIfInBounds i true) := by
 obtain ⟨_, oi, hoi, hall⟩ := mem_ready.1 hi
 refine ⟨by simp [inv.size], fun j oj hj hl e he hb => ?_, fun t ht => by rw [getD_set_ne true (fun h => hin (by rw [h]; exact ht))]; exact inv.tail t ht⟩
 by_cases hij : i = j
 ·subst hij
  obtain rfl := Option.some.inj (hj.symm.trans hoi)
  exact getD_set_true (hall e he hb)
 ·rw [getD_set_ne false hij] at hl
  exact getD_set_true (inv.closed j oj hj hl e he hb)
theorem not_ready_of_waits {listed : Array Bool} {i j : Nat} (h : Region.waitsFor md ops j i = true) (hun : listed.getD i true = false) : j ∉ Region.ready md ops listed := by
 intro hr
 obtain ⟨_, oj, hoj, hall⟩ := mem_ready.1 hr
 obtain ⟨oj', hoj', e, he, hb, hon⟩ := Region.waitsFor_spec h
 obtain rfl := Option.some.inj (hoj'.symm.trans hoj)
 have := hall e he hb
 rw [hon, getD_both hun] at this
 cases this
theorem sink_waits {t : Nat} {ts : List Nat} {listed : Array Bool} (inv : HInv md ops ts listed) : ∀ (s : List Nat), (∀ i ∈ s, i < ops.size) → sinkL md ops t s = true → ∀ i ∈ s, listed.getD i true = false → t ∉ Region.ready md ops listed
 | [], _, _, i, hi, _ => by cases hi
 | k :: r, hlt, hs, i, hi, hun => by
   simp only [sinkL, Bool.and_eq_true] at hs
   have ih := sink_waits inv r (fun i hi => hlt i (List.mem_cons_of_mem _ hi)) hs.2
   rcases List.mem_cons.1 hi with rfl | hi
   ·obtain ⟨j, hj, hw⟩ := List.any_eq_true.1 hs.1
    rcases List.mem_append.1 hj with hj | hj
    ·refine ih j hj ?_
     obtain ⟨oj, hoj, e, he, hb, hon⟩ := Region.waitsFor_spec hw
     cases hl : listed.getD j false with
     | true =>
       have := inv.closed j oj hoj hl e he hb
       rw [hon, getD_both hun] at this
       cases this
     | false => exact getD_in (by rw [inv.size]; exact hlt j (List.mem_cons_of_mem _ hj)) hl
    ·obtain rfl := List.mem_singleton.1 hj
     exact not_ready_of_waits hw hun
   ·exact ih i hi hun
theorem chain_waits : ∀ {ts : List Nat} {listed : Array Bool}, chainL md ops ts = true → (∀ t ∈ ts, listed.getD t true = false) → ∀ t, t ∈ ts.tail → t ∉ Region.ready md ops listed
 | [], _, _, _, t, ht => by cases ht
 | [_], _, _, _, t, ht => by cases ht
 | a :: b :: r, listed, hc, hu, t, ht => by
   simp only [chainL, Bool.and_eq_true] at hc
   have ht' : t ∈ b :: r := ht
   rcases List.mem_cons.1 ht' with rfl | h
   ·exact not_ready_of_waits hc.1 (hu a (by simp))
   ·exact chain_waits (ts := b :: r) hc.2 (fun t ht => hu t (List.mem_cons_of_mem _ ht)) t h
def hdC (P : Program) (md : Region.Mode) (ops : Array Oper) (C : World → Prop) (ts : List Nat) (L : Array Bool → Act → Prop) : Nat → Array Bool → Act → Prop
 | 0, listed, a => L listed a
 | f + 1, listed, a => Region.ready md ops listed ≠ [] ∧ ∀ i ∈ Region.ready md ops listed, i ∉ ts ∧ qOp P ops C i (hdC P md ops C ts L f (listed.setIfInBounds i true)) a
theorem any_of_hdC {ts : List Nat} {g : Nat} {L : Array Bool → Act → Prop} {Q : Exit → Act → World → Prop} (hL : ∀ listed a w, C w → L listed a → wpAny P md ops Q g listed a w) :
 ∀ (f : Nat) (listed : Array Bool) (a : Act) (w : World), C w → hdC P md ops C ts L f listed a → wpAny P md ops Q (f + g) listed a w := by
 intro f
 exact tZ44
theorem hdC_take {ts : List Nat} {i : Nat} {oi : Oper} {v : Value} {L : Array Bool → Act → Prop} (hi : ops[i]? = some oi) (hsel : ∀ (j : Nat) (o : Oper) cs b, ops[j]? = some o → o.op ≠ .select cs b)
 (early : ∀ (listed : Array Bool), HInv md ops ts listed → i ∈ Region.ready md ops listed → ∀ j ∈ Region.ready md ops listed, j ∉ ts)
 (hdone : ∀ listed a, L listed a → ∀ j ∈ Region.ready md ops listed, j ∈ ts) (f : Nat) :
 ∀ (listed : Array Bool) (a : Act), HInv md ops ts listed →
  (∀ j oj, ops[j]? = some oj → j ≠ i → listed.getD j true = false → (∀ e ∈ oj.after, Region.binds md e = true → e.on ≠ i) → oi.apart ops oj = true) →
  i ∈ Region.ready md ops listed → YieldsIn P ops C oi v a →
  hdC P md ops C ts L f (listed.setIfInBounds i true) (a.put oi.dst v) → hdC P md ops C ts L (f + 1) listed a := by
 induction f with
 | zero =>
   intro listed a inv _ hr hy H
   refine ⟨List.ne_nil_of_mem hr, fun j hj => ⟨early listed inv hr j hj, ?_⟩⟩
   by_cases hji : j = i
   ·rw [hji]; exact hy.qOp hi H
   ·exact absurd (hdone _ _ H j (ready_mono hj hji)) (early listed inv hr j hj)
 | succ f ih =>
   exact tZ13
theorem hdC_ord {t : Nat} {ts : List Nat} {Lq : Act → Prop} (hsel : Region.noSelect ops = true) (hc : chainL md ops (t :: ts) = true) :
 ∀ (hs : List Nat) (listed : Array Bool) (a : Act), (∀ i ∈ hs, i < ops.size) → sinkL md ops t hs = true → HInv md ops (t :: ts) listed →
 headL md ops (t :: ts) hs listed = true → (∀ i ∈ hs, listed.getD i true = false ∧ i ∉ t :: ts) → hs.Nodup → wpQuiet P ops C Lq (hs.filterMap fun i => ops[i]?) a →
 hdC P md ops C (t :: ts) (fun listed' a' => seqL md ops (t :: ts) listed' = true ∧ Lq a') hs.length listed a
 | [], listed, a, _, _, _, hB, _, _, h => ⟨hB, h⟩
 | k :: r, listed, a, hlt, hs, inv, hB, hu, hnd, h => by
   obtain ⟨o, h0⟩ : ∃ o, ops[k]? = some o := ⟨_, Array.getElem?_eq_getElem (hlt k (by simp))⟩
   simp only [headL, Bool.and_eq_true] at hB
   obtain ⟨⟨hr, hf⟩, hB'⟩ := hB
   have hr' : k ∈ Region.ready md ops listed := by simpa using hr
   have hkt := (hu k (by simp)).2
   simp only [List.filterMap_cons, h0] at h
   have hst : qOp P ops C k (wpQuiet P ops C Lq (r.filterMap fun i => ops[i]?)) a := by unfold qOp; simp only [h0]; exact h
   obtain ⟨v, hy, hK⟩ := yieldsIn_of_qOp h0 hst
   obtain ⟨hnk, hnd'⟩ := List.nodup_cons.1 hnd
   have hs' := hs
   simp only [sinkL, Bool.and_eq_true] at hs'
   refine hdC_take h0 (Region.noSelect_spec hsel) (fun listed' inv' hrd j hj => ?_) (fun listed' a' hL j hj => ?_) r.length listed a inv (Region.free_spec h0 hf) hr' hy ?_
   ·intro hjt
    rcases List.mem_cons.1 hjt with rfl | hjt
    ·exact sink_waits inv' (k :: r) hlt hs k (by simp) (mem_ready.1 hrd).1 hj
    ·exact chain_waits hc inv'.tail j hjt hj
   ·have hh := hL.1
    simp only [seqL, Bool.and_eq_true, decide_eq_true_eq] at hh
    rw [hh.1] at hj
    exact List.mem_cons.2 (.inl (List.mem_singleton.1 hj))
   ·refine hdC_ord hsel hc r _ _ (fun i hi => hlt i (List.mem_cons_of_mem _ hi)) hs'.2 (inv.set hr' hkt) hB' (fun i hi => ⟨?_, (hu i (List.mem_cons_of_mem _ hi)).2⟩) hnd' hK
    have hki : k ≠ i := fun e => hnk (e ▸ hi)
    rw [getD_set_ne true hki]
    exact (hu i (List.mem_cons_of_mem _ hi)).1
theorem any_of_seqL {Q : Exit → Act → World → Prop} : ∀ (ts : List Nat) (listed : Array Bool) (a : Act) (w : World), (∀ i ∈ ts, i < ops.size) →
 seqL md ops ts listed = true → wpList P ops Q (ts.filterMap fun i => ops[i]?) a w → wpAny P md ops Q ts.length listed a w
 | [], _, _, _, _, hB, h => ⟨by simpa [seqL] using hB, h⟩
 | t :: r, listed, a, w, hlt, hB, h => by
   obtain ⟨o, h0⟩ : ∃ o, ops[t]? = some o := ⟨_, Array.getElem?_eq_getElem (hlt t (by simp))⟩
   simp only [seqL, Bool.and_eq_true, decide_eq_true_eq] at hB
   simp only [List.filterMap_cons, h0] at h
   refine ⟨fun h1 => (by rw [hB.1] at h1; cases h1), fun i hi => ?_⟩
   rw [hB.1] at hi
   obtain rfl := List.mem_singleton.1 hi
   have hw : wpOp P ops Q i (wpList P ops Q (r.filterMap fun i => ops[i]?)) a w := by unfold wpOp; simp only [h0]; exact h
   exact wpOp_mono (fun a' w' h' => any_of_seqL r _ a' w' (fun j hj => hlt j (List.mem_cons_of_mem _ hj)) hB.2 h') hw
def wpPure (P : Program) (ops : Array Oper) (Q : Act → Prop) : List Oper → Act → Prop
 | [], a => Q a
 | o :: rest, a => if Region.wanted o (yielded ops a.tmps) then ∃ v, (∀ w, (execOp a.eval o).run P w = .ok (.value v) w) ∧ wpPure P ops Q rest (a.put o.dst v) else wpPure P ops Q rest (a.put o.dst undef)
theorem wpPure_nil {Q : Act → Prop} {a : Act} (h : Q a) : wpPure P ops Q [] a := h
theorem wpPure_step {Q : Act → Prop} {a : Act} {o : Oper} {rest : List Oper}
 (h : ∀ K : Act → Prop, (∀ a, wpPure P ops Q rest a → K a) → if Region.wanted o (yielded ops a.tmps) then ∃ v, (∀ w, (execOp a.eval o).run P w = .ok (.value v) w) ∧ K (a.put o.dst v) else K (a.put o.dst undef)) : wpPure P ops Q (o :: rest) a :=
 h _ (fun _ h => h)
def pureL (md : Region.Mode) (ops : Array Oper) : List Nat → Array Bool → Option (Array Bool)
 | [], listed => some listed
 | k :: r, listed => if (Region.ready md ops listed).contains k && Region.free md ops listed k then pureL md ops r (listed.setIfInBounds k true) else none
def ordB (md : Region.Mode) (ops : Array Oper) (ps hs ts : List Nat) : Bool :=
 Region.noSelect ops && decide (ps ++ (hs ++ ts)).Nodup && (ps ++ (hs ++ ts)).all (fun i => decide (i < ops.size)) && decide ((ps ++ (hs ++ ts)).length = ops.size) &&
 (match ts with | [] => false | t :: _ => sinkL md ops t hs) && chainL md ops ts &&
 (match pureL md ops ps (Array.replicate ops.size false) with | none => false | some l => headL md ops ts hs l)
theorem pure_take {Q : Exit → Act → World → Prop} {ts hs : List Nat} (hsel : Region.noSelect ops = true) (hQ : ∀ (d : Option Tmp) (v : Value) c (a : Act) w, Q (.panic c) (a.put d v) w → Q (.panic c) a w) (f : Nat) {l1 : Array Bool} {Qa : Act → Prop} {w : World} :
 ∀ (ps : List Nat) (listed : Array Bool) (a : Act), (∀ i ∈ ps, i < ops.size) → ps.Nodup → (∀ i ∈ ps, i ∉ ts) → (∀ i ∈ ps, i ∉ hs) → HInv md ops ts listed → (∀ i ∈ hs, listed.getD i true = false) → pureL md ops ps listed = some l1 →
 wpPure P ops Qa (ps.filterMap fun i => ops[i]?) a → (∀ a', Qa a' → HInv md ops ts l1 → (∀ i ∈ hs, l1.getD i true = false) → wpAny P md ops Q f l1 a' w) → wpAny P md ops Q (ps.length + f) listed a w
 | [], listed, a, _, _, _, _, inv, hu, hp, h, k => by
   obtain rfl := Option.some.inj hp
   rw [List.length_nil, Nat.zero_add]
   exact k a h inv hu
 | i :: r, listed, a, hlt, hnd, hts, hhs, inv, hu, hp, h, k => by
   obtain ⟨o, h0⟩ : ∃ o, ops[i]? = some o := ⟨_, Array.getElem?_eq_getElem (hlt i (by simp))⟩
   obtain ⟨hni, hnd'⟩ := List.nodup_cons.1 hnd
   unfold pureL at hp
   split at hp
   ·rename_i hrf
    simp only [Bool.and_eq_true] at hrf
    simp only [List.filterMap_cons, h0] at h
    have hr' : i ∈ Region.ready md ops listed := by simpa using hrf.1
    have e : (i :: r).length + f = (r.length + f) + 1 := by simp; omega
    rw [e]
    have inv' := inv.set hr' (hts i (by simp))
    have hu' : ∀ j ∈ hs, (listed.setIfInBounds i true).getD j true = false := fun j hj => by
     rw [getD_set_ne true (fun e => hhs i (by simp) (by rw [e]; exact hj))]
     exact hu j hj
    unfold wpPure at h
    split at h
    ·rename_i hw
     obtain ⟨v, hv, hK⟩ := h
     refine wpAny_first h0 (Region.noSelect_spec hsel) (fun c a w => hQ o.dst v c a w) (r.length + f) listed a w (Region.free_spec h0 hrf.2) hr' (.inl ⟨hw, hv⟩) ?_
     exact pure_take hsel hQ f r _ _ (fun j hj => hlt j (List.mem_cons_of_mem _ hj)) hnd' (fun j hj => hts j (List.mem_cons_of_mem _ hj)) (fun j hj => hhs j (List.mem_cons_of_mem _ hj)) inv' hu' hp hK k
    ·rename_i hw
     refine wpAny_first h0 (Region.noSelect_spec hsel) (fun c a w => hQ o.dst undef c a w) (r.length + f) listed a w (Region.free_spec h0 hrf.2) hr' (.inr ⟨by simpa using hw, rfl⟩) ?_
     exact pure_take hsel hQ f r _ _ (fun j hj => hlt j (List.mem_cons_of_mem _ hj)) hnd' (fun j hj => hts j (List.mem_cons_of_mem _ hj)) (fun j hj => hhs j (List.mem_cons_of_mem _ hj)) inv' hu' hp h k
   ·cases hp
theorem region_ord {id : Nat} {Q : Exit → Act → World → Prop} {a : Act} {w : World} {l : List Oper} (ps hs ts : List Nat) (hm : P.follows .mixedOrders = true) (hB : ordB .any l.toArray ps hs ts = true)
 (hQ : ∀ (d : Option Tmp) (v : Value) c (a : Act) w, Q (.panic c) (a.put d v) w → Q (.panic c) a w) (hC : C { w with drawn := w.drawn + 1 })
 (h : wpPure P l.toArray (wpQuiet P l.toArray C (fun a' => ∀ w', C w' → wpList P l.toArray Q (ts.filterMap fun i => l[i]?) a' w') (hs.filterMap fun i => l[i]?)) (ps.filterMap fun i => l[i]?) a) : (Code.region id l.toArray true).wp P Q a w := by
 simp only [ordB, Bool.and_eq_true, decide_eq_true_eq] at hB
 obtain ⟨⟨⟨⟨⟨⟨hsel, hnd⟩, hlt⟩, hlen⟩, hsk⟩, hch⟩, hhd⟩ := hB
 cases ts with
 | nil => cases hsk
 | cons t ts =>
   cases hp : pureL .any l.toArray ps (Array.replicate l.toArray.size false) with
   | none => rw [hp] at hhd; cases hhd
   | some l1 =>
     rw [hp] at hhd
     have hlt' : ∀ i ∈ ps ++ (hs ++ (t :: ts)), i < l.toArray.size := fun i hi => by simpa using List.all_eq_true.1 hlt i hi
     obtain ⟨nd1, nd2, nd3⟩ := List.nodup_append.1 hnd
     obtain ⟨nd4, nd5, nd6⟩ := List.nodup_append.1 nd2
     have inv0 : HInv .any l.toArray (t :: ts) (Array.replicate l.toArray.size false) :=
      ⟨by simp, fun j oj _ hl => (by rw [getD_replicate_false] at hl; cases hl), fun u hu => getD_in (by simpa using hlt' u (List.mem_append.2 (.inr (List.mem_append.2 (.inr hu))))) (getD_replicate_false _ _)⟩
     have hg : ∀ (m : List Nat), (m.filterMap fun i => l[i]?) = m.filterMap fun i => l.toArray[i]? := fun m => by simp
     rw [hg ps, hg hs, hg (t :: ts)] at h
     refine wp_region_any hm ?_
     have R := pure_take (P := P) (md := .any) (ops := l.toArray) (ts := t :: ts) (hs := hs) hsel hQ (hs.length + (t :: ts).length) (w := { w with drawn := w.drawn + 1 }) ps (Array.replicate l.toArray.size false) a
      (fun i hi => hlt' i (List.mem_append.2 (.inl hi))) nd1 (fun i hi hit => nd3 i hi i (List.mem_append.2 (.inr hit)) rfl) (fun i hi hit => nd3 i hi i (List.mem_append.2 (.inl hit)) rfl) inv0
      (fun i hi => getD_in (by simpa using hlt' i (List.mem_append.2 (.inr (List.mem_append.2 (.inl hi))))) (getD_replicate_false _ _)) hp h
      (fun a' hq inv1 hu1 => by
        have H := hdC_ord (P := P) (md := .any) (ops := l.toArray) (C := C) hsel hch hs l1 a' (fun i hi => hlt' i (List.mem_append.2 (.inr (List.mem_append.2 (.inl hi))))) hsk inv1 hhd
         (fun i hi => ⟨hu1 i hi, fun hit => nd6 i hi i hit rfl⟩) nd4 hq
        exact any_of_hdC (Q := Q) (g := (t :: ts).length) (fun listed a' w' hw' hL =>
         any_of_seqL (md := .any) (ops := l.toArray) (t :: ts) listed a' w' (fun i hi => hlt' i (List.mem_append.2 (.inr (List.mem_append.2 (.inr hi))))) hL.1 (hL.2 w' hw')) _ _ _ _ hC H)
     have e : ps.length + (hs.length + (t :: ts).length) = l.toArray.size := by rw [← hlen, List.length_append, List.length_append]
     rw [e] at R
     exact R
end
theorem ord_grown {id : Nat} {Q : Exit → Act → World → Prop} {a : Act} {w : World} {l : List Oper} (ps hs ts : List Nat) (hB : ordB .any l.toArray ps hs ts = true)
 (hQ : ∀ (d : Option Tmp) (v : Value) c (a : Act) w, Q (.panic c) (a.put d v) w → Q (.panic c) a w)
 (h : wpPure Tryz.prog l.toArray (wpQuiet Tryz.prog l.toArray (fun w' => ∃ p : GrownBy, w' = Sort.grow (w.drewN p.n) p.os) (fun a' => ∀ w', (∃ p : GrownBy, w' = Sort.grow (w.drewN p.n) p.os) → wpList Tryz.prog l.toArray Q (ts.filterMap fun i => l[i]?) a' w') (hs.filterMap fun i => l[i]?)) (ps.filterMap fun i => l[i]?) a) :
 (Code.region id l.toArray true).wp Tryz.prog Q a w :=
 region_ord ps hs ts mixed hB hQ ⟨⟨1, #[]⟩, by rw [grow_empty]; rfl⟩ h
theorem tZ79 {P : Prop} (h : P := by
 rw [if_pos (by unfold Region.wanted; rw [hg])]
 exact .inl (h _ (fun a' w' h1 h2 => ⟨h1, h2⟩))) : P := h
section
variable {P : Program} {ops : Array Oper} {md : Region.Mode} {C : World → Prop} {Q : Exit → Act → World → Prop} {E : List Nat}
def wpAnyF (P : Program) (md : Region.Mode) (ops : Array Oper) (Q : Exit → Act → World → Prop) (C : World → Prop) (E : List Nat) : Nat → Array Bool → Act → World → Prop
 | 0, listed, a, w => Region.ready md ops listed = [] ∧ Q .normal a w
 | fuel + 1, listed, a, w => (Region.ready md ops listed = [] → Q .normal a w) ∧
    ∀ i ∈ Region.ready md ops listed, wpOp P ops Q i (fun a' w' => (i ∈ E → C w') ∧ wpAnyF P md ops Q C E fuel (listed.setIfInBounds i true) a' w') a w
theorem any_of_F : ∀ (fuel : Nat) (listed : Array Bool) (a : Act) (w : World), wpAnyF P md ops Q C E fuel listed a w → wpAny P md ops Q fuel listed a w
 | 0, _, _, _, h => h
 | fuel + 1, _, _, _, h => ⟨h.1, fun i hi => wpOp_mono (fun a' w' h' => any_of_F fuel _ a' w' h'.2) (h.2 i hi)⟩
theorem F_first {D : World → Prop} {X : List Nat} {i : Nat} {oi : Oper} {v : Value} (hi : ops[i]? = some oi) (hsel : ∀ (j : Nat) (o : Oper) cs b, ops[j]? = some o → o.op ≠ .select cs b)
 (hQ : ∀ c a w, Q (.panic c) (a.put oi.dst v) w → Q (.panic c) a w) (hX : ∀ t ∈ X, ∃ j, (j = i ∨ j ∈ X) ∧ Region.waitsFor md ops t j = true) (hDi : ∀ w, D w → i ∈ E → C w) :
 ∀ (fuel : Nat) (listed : Array Bool) (a : Act) (w : World),
  (∀ j oj, ops[j]? = some oj → j ≠ i → listed.getD j true = false → (∀ e ∈ oj.after, Region.binds md e = true → e.on ≠ i) → oi.apart ops oj = true) →
  (∀ t ∈ X, listed.getD t true = false) → (∀ j, listed.getD j true = false → j ≠ i → j ∉ X → ∀ w, (j ∈ E → C w) → D w) → i ∈ Region.ready md ops listed → YieldsIf P ops D oi v a → D w →
  wpAnyF P md ops Q C E fuel (listed.setIfInBounds i true) (a.put oi.dst v) w → wpAnyF P md ops Q C E (fuel + 1) listed a w := by
 intro fuel
 induction fuel with
 | zero =>
   intro listed a w _ _ _ hr hy hD H
   refine ⟨fun h => (by rw [h] at hr; cases hr), fun j hj => ?_⟩
   by_cases hji : j = i
   ·subst hji; exact hy.wpOp hi hD ⟨hDi w hD, H⟩
   ·have := ready_mono hj hji
    rw [H.1] at this
    cases this
 | succ fuel ih =>
   intro listed a w hfree hun hrest hr hy hD H
   refine ⟨fun h => (by rw [h] at hr; cases hr), fun j hj => ?_⟩
   by_cases hji : j = i
   ·subst hji; exact hy.wpOp hi hD ⟨hDi w hD, H⟩
   ·have hiun : listed.getD i true = false := (mem_ready.1 hr).1
    have hjX : j ∉ X := fun hjX => by
     obtain ⟨k, hk, hw⟩ := hX j hjX
     refine not_ready_of_waits hw ?_ hj
     rcases hk with rfl | hk
     ·exact hiun
     ·exact hun k hk
    have h1 := H.2 j (ready_mono hj hji)
    obtain ⟨hjun, oj, hoj, hall⟩ := mem_ready.1 hj
    have hnot : ∀ e ∈ oj.after, Region.binds md e = true → e.on ≠ i := fun e he hb heq => by
     have h1 := hall e he hb
     rw [heq, getD_both hiun] at h1
     cases h1
    have h2 := wpOp_putIf hoj (hfree j oj hoj hji hjun hnot) (fun cs b => hsel i oi cs b hi) (fun cs b => hsel j oj cs b hoj) hQ hy h1
    have keep : ∀ k, (listed.setIfInBounds j true).getD k true = false → listed.getD k true = false := fun k hu => by
     by_cases hjk : j = k
     ·subst hjk; exact hjun
     ·rw [getD_set_ne true hjk] at hu; exact hu
    refine wpOp_mono (fun a' w' h3 => ⟨h3.2.1, ih (listed.setIfInBounds j true) a' w' (fun k ok hk hki hu hno => hfree k ok hk hki (keep k hu) hno) (fun t ht => ?_) (fun k hu => hrest k (keep k hu)) (ready_mono hr (Ne.symm hji)) h3.1 (hrest j hjun hji hjX w' h3.2.1) ?_⟩) h2
    ·rw [getD_set_ne true (fun e => hjX (by rw [e]; exact ht))]
     exact hun t ht
    ·rw [Array.setIfInBounds_comm _ _ hji]
     exact h3.2.2
def wpTake (P : Program) (ops : Array Oper) (C : World → Prop) (R : Act → Prop) : List Oper → Act → Prop
 | [], a => R a
 | o :: r, a => if Region.wanted o (yielded ops a.tmps) then ∃ v, (∀ w, C w → (execOp a.eval o).run P w = .ok (.value v) w) ∧ wpTake P ops C R r (a.put o.dst v) else wpTake P ops C R r (a.put o.dst undef)
theorem wpTake_nil {R : Act → Prop} {a : Act} (h : R a) : wpTake P ops C R [] a := h
theorem wpTake_val {R : Act → Prop} {a : Act} {o : Oper} {r : List Oper} (hg : o.guard = none) (v : Value) (hv : ∀ w, C w → (execOp a.eval o).run P w = .ok (.value v) w) (h : wpTake P ops C R r (a.put o.dst v)) : wpTake P ops C R (o :: r) a := by
 unfold wpTake
 rw [if_pos (by unfold Region.wanted; rw [hg])]
 exact ⟨v, hv, h⟩
def clo (md : Region.Mode) (ops : Array Oper) (k : Nat) : List Nat := (List.range ops.size).foldl (fun X j => if j ≠ k ∧ (k :: X).any (fun i => Region.waitsFor md ops j i) = true then X ++ [j] else X) []
def waitB (md : Region.Mode) (ops : Array Oper) (k : Nat) (X : List Nat) : Bool := X.all fun t => (k :: X).any fun j => Region.waitsFor md ops t j
def takeL (md : Region.Mode) (ops : Array Oper) (E : List Nat) : List Nat → Array Bool → Option (Array Bool)
 | [], listed => some listed
 | k :: r, listed => if (Region.ready md ops listed).contains k && Region.free md ops listed k && waitB md ops k (clo md ops k) && (clo md ops k).all (fun t => !listed.getD t true) &&
    (List.range ops.size).all (fun j => listed.getD j true || j == k || (clo md ops k).contains j || E.contains j) then takeL md ops E r (listed.setIfInBounds k true) else none
def soloL (md : Region.Mode) (ops : Array Oper) : List Nat → Array Bool → Option (Array Bool)
 | [], listed => some listed
 | t :: r, listed => if decide (Region.ready md ops listed = [t]) then soloL md ops r (listed.setIfInBounds t true) else none
def wpU (P : Program) (ops : Array Oper) (Q : Exit → Act → World → Prop) (C : World → Prop) (ts : List Oper) : List Oper → Act → World → Prop
 | [], a, w => wpList P ops Q ts a w
 | u :: us, a, w => if Region.wanted u (yielded ops a.tmps) then u.wp P a w (fun a' w' => C w' ∧ wpU P ops Q C ts us a' w') Q ∨ (u.asks P a w ∧ LetsOut Q) else C w ∧ wpU P ops Q C ts us (a.put u.dst undef) w
theorem wpU_nil {ts : List Oper} {a : Act} {w : World} (h : wpList P ops Q ts a w) : wpU P ops Q C ts [] a w := h
theorem wpU_step {ts us : List Oper} {u : Oper} {a : Act} {w : World} (hg : u.guard = none) (h : ∀ K : Act → World → Prop, Hid (∀ a' w', C w' → wpU P ops Q C ts us a' w' → K a' w') → u.wp P a w K Q) : wpU P ops Q C ts (u :: us) a w := by
 unfold wpU
 exact tZ79
theorem F_pures {hsel : Region.noSelect ops = true} (hQ : ∀ (d : Option Tmp) (v : Value) c (a : Act) w, Q (.panic c) (a.put d v) w → Q (.panic c) a w) (f : Nat) {l1 : Array Bool} {R : Act → Prop} {w : World} :
 ∀ (ps : List Nat) (listed : Array Bool) (a : Act), (∀ i ∈ ps, i < ops.size) → (∀ i ∈ ps, i ∉ E) → pureL md ops ps listed = some l1 → wpPure P ops R (ps.filterMap fun i => ops[i]?) a →
  (∀ a', R a' → wpAnyF P md ops Q C E f l1 a' w) → wpAnyF P md ops Q C E (ps.length + f) listed a w
 | [], listed, a, _, _, hp, h, k => by
   obtain rfl := Option.some.inj hp
   rw [List.length_nil, Nat.zero_add]
   exact k a h
 | i :: r, listed, a, hlt, hE, hp, h, k => by
   obtain ⟨o, h0⟩ : ∃ o, ops[i]? = some o := ⟨_, Array.getElem?_eq_getElem (hlt i (by simp))⟩
   unfold pureL at hp
   split at hp
   ·rename_i hrf
    simp only [Bool.and_eq_true] at hrf
    have hr : i ∈ Region.ready md ops listed := by simpa using hrf.1
    simp only [List.filterMap_cons, h0] at h
    have e : (i :: r).length + f = (r.length + f) + 1 := by simp; omega
    rw [e]
    have step : ∀ v, YieldsIf P ops (fun _ => True) o v a → wpAnyF P md ops Q C E (r.length + f) (listed.setIfInBounds i true) (a.put o.dst v) w → wpAnyF P md ops Q C E (r.length + f + 1) listed a w := fun v hy H =>
     F_first (D := fun _ => True) (X := []) h0 (Region.noSelect_spec hsel) (fun c a w => hQ o.dst v c a w) (by simp) (fun w _ h => absurd h (hE i (by simp))) (r.length + f) listed a w (Region.free_spec h0 hrf.2) (by simp) (fun _ _ _ _ _ _ => trivial) hr hy trivial H
    have rest := fun a' h' => F_pures (hsel := hsel) hQ f r (listed.setIfInBounds i true) a' (fun j hj => hlt j (List.mem_cons_of_mem _ hj)) (fun j hj => hE j (List.mem_cons_of_mem _ hj)) hp h' k
    unfold wpPure at h
    split at h
    ·rename_i hw
     obtain ⟨v, hv, hK⟩ := h
     exact step v (.inl ⟨hw, fun w _ => hv w⟩) (rest _ hK)
    ·rename_i hw
     exact step undef (.inr ⟨by simpa using hw, rfl⟩) (rest _ h)
   ·cases hp
theorem F_takes {hsel : Region.noSelect ops = true} (hQ : ∀ (d : Option Tmp) (v : Value) c (a : Act) w, Q (.panic c) (a.put d v) w → Q (.panic c) a w) (f : Nat) {l1 : Array Bool} {R : Act → Prop} {w : World} (hC : C w) :
 ∀ (fs : List Nat) (listed : Array Bool) (a : Act), (∀ i ∈ fs, i < ops.size) → listed.size = ops.size → takeL md ops E fs listed = some l1 → wpTake P ops C R (fs.filterMap fun i => ops[i]?) a →
  (∀ a', R a' → wpAnyF P md ops Q C E f l1 a' w) → wpAnyF P md ops Q C E (fs.length + f) listed a w
 | [], listed, a, _, _, hp, h, k => by
   obtain rfl := Option.some.inj hp
   rw [List.length_nil, Nat.zero_add]
   exact k a h
 | i :: r, listed, a, hlt, hsz, hp, h, k => by
   obtain ⟨o, h0⟩ : ∃ o, ops[i]? = some o := ⟨_, Array.getElem?_eq_getElem (hlt i (by simp))⟩
   unfold takeL at hp
   split at hp
   ·rename_i hrf
    simp only [Bool.and_eq_true, List.contains_eq_mem, decide_eq_true_eq] at hrf
    obtain ⟨⟨⟨⟨hr, hf⟩, hwt⟩, hun⟩, hall⟩ := hrf
    simp only [List.filterMap_cons, h0] at h
    have e : (i :: r).length + f = (r.length + f) + 1 := by simp; omega
    rw [e]
    have hX : ∀ t ∈ clo md ops i, ∃ j, (j = i ∨ j ∈ clo md ops i) ∧ Region.waitsFor md ops t j = true := fun t ht => by
     obtain ⟨j, hj, hw⟩ := List.any_eq_true.1 (List.all_eq_true.1 hwt t ht)
     exact ⟨j, List.mem_cons.1 hj, hw⟩
    have hun' : ∀ t ∈ clo md ops i, listed.getD t true = false := fun t ht => by simpa using List.all_eq_true.1 hun t ht
    have hrest : ∀ j, listed.getD j true = false → j ≠ i → j ∉ clo md ops i → ∀ w, (j ∈ E → C w) → C w := fun j hj hji hjX w hE => by
     have hlt : j < ops.size := by
      rcases Nat.lt_or_ge j ops.size with h | h
      ·exact h
      ·simp [Array.getD, show ¬ j < listed.size by omega] at hj
     have := List.all_eq_true.1 hall j (List.mem_range.2 hlt)
     simp only [Bool.or_eq_true, beq_iff_eq, List.contains_eq_mem, decide_eq_true_eq] at this
     rcases this with ((h | h) | h) | h
     ·rw [hj] at h; cases h
     ·exact absurd h hji
     ·exact absurd h hjX
     ·exact hE h
    have step : ∀ v, YieldsIf P ops C o v a → wpAnyF P md ops Q C E (r.length + f) (listed.setIfInBounds i true) (a.put o.dst v) w → wpAnyF P md ops Q C E (r.length + f + 1) listed a w := fun v hy H =>
     F_first (D := C) (X := clo md ops i) h0 (Region.noSelect_spec hsel) (fun c a w => hQ o.dst v c a w) hX (fun w h _ => h) (r.length + f) listed a w (Region.free_spec h0 hf) hun' hrest hr hy hC H
    have rest := fun a' h' => F_takes (hsel := hsel) hQ f hC r (listed.setIfInBounds i true) a' (fun j hj => hlt j (List.mem_cons_of_mem _ hj)) (by simpa using hsz) hp h' k
    unfold wpTake at h
    split at h
    ·rename_i hw
     obtain ⟨v, hv, hK⟩ := h
     exact step v (.inl ⟨hw, hv⟩) (rest _ hK)
    ·rename_i hw
     exact step undef (.inr ⟨by simpa using hw, rfl⟩) (rest _ h)
   ·cases hp
theorem F_ts : ∀ (ts : List Nat) (listed : Array Bool) (a : Act) (w : World), (∀ i ∈ ts, i < ops.size) → (∀ i ∈ ts, i ∉ E) →
 seqL md ops ts listed = true → wpList P ops Q (ts.filterMap fun i => ops[i]?) a w → wpAnyF P md ops Q C E ts.length listed a w
 | [], _, _, _, _, _, hB, h => ⟨by simpa [seqL] using hB, h⟩
 | t :: r, listed, a, w, hlt, hin, hB, h => by
   obtain ⟨o, h0⟩ : ∃ o, ops[t]? = some o := ⟨_, Array.getElem?_eq_getElem (hlt t (by simp))⟩
   simp only [seqL, Bool.and_eq_true, decide_eq_true_eq] at hB
   simp only [List.filterMap_cons, h0] at h
   refine ⟨fun h1 => (by rw [hB.1] at h1; cases h1), fun i hi => ?_⟩
   rw [hB.1] at hi
   obtain rfl := List.mem_singleton.1 hi
   have hw : wpOp P ops Q i (wpList P ops Q (r.filterMap fun i => ops[i]?)) a w := by unfold wpOp; simp only [h0]; exact h
   exact wpOp_mono (fun a' w' h' => ⟨fun hn => absurd hn (hin i (by simp)), F_ts r _ a' w' (fun j hj => hlt j (List.mem_cons_of_mem _ hj)) (fun j hj => hin j (List.mem_cons_of_mem _ hj)) hB.2 h'⟩) hw
theorem F_us {ts : List Nat} {l1 : Array Bool} (hts : ∀ i ∈ ts, i < ops.size) (hin : ∀ i ∈ ts, i ∉ E) (hB : seqL md ops ts l1 = true) : ∀ (us : List Nat) (listed : Array Bool) (a : Act) (w : World), (∀ i ∈ us, i < ops.size) →
 soloL md ops us listed = some l1 → wpU P ops Q C (ts.filterMap fun i => ops[i]?) (us.filterMap fun i => ops[i]?) a w → wpAnyF P md ops Q C E (us.length + ts.length) listed a w
 | [], _, a, w, _, hp, h => by
   obtain rfl := Option.some.inj hp
   rw [List.length_nil, Nat.zero_add]
   exact F_ts ts _ a w hts hin hB h
 | u :: r, listed, a, w, hlt, hp, h => by
   obtain ⟨o, h0⟩ : ∃ o, ops[u]? = some o := ⟨_, Array.getElem?_eq_getElem (hlt u (by simp))⟩
   unfold soloL at hp
   split at hp
   ·rename_i hrf
    simp only [decide_eq_true_eq] at hrf
    simp only [List.filterMap_cons, h0] at h
    have e : (u :: r).length + ts.length = (r.length + ts.length) + 1 := by simp; omega
    rw [e]
    refine ⟨fun h1 => (by rw [hrf] at h1; cases h1), fun i hi => ?_⟩
    rw [hrf] at hi
    obtain rfl := List.mem_singleton.1 hi
    have hw : wpOp P ops Q i (fun a' w' => C w' ∧ wpU P ops Q C (ts.filterMap fun i => ops[i]?) (r.filterMap fun i => ops[i]?) a' w') a w := by
     unfold wpOp
     simp only [h0]
     exact h
    exact wpOp_mono (fun a' w' h' => ⟨fun _ => h'.1, F_us hts hin hB r _ a' w' (fun j hj => hlt j (List.mem_cons_of_mem _ hj)) hp h'.2⟩) hw
   ·cases hp
theorem pureL_size : ∀ (ps : List Nat) (listed : Array Bool) {l1 : Array Bool}, pureL md ops ps listed = some l1 → l1.size = listed.size
 | [], listed, l1, h => by obtain rfl := Option.some.inj h; rfl
 | k :: r, listed, l1, h => by
   unfold pureL at h
   split at h
   ·have := pureL_size r _ h
    simpa using this
   ·cases h
end
def freeB (md : Region.Mode) (ops : Array Oper) (ps ls us ts : List Nat) : Bool :=
 Region.noSelect ops && (ps ++ (ls ++ (us ++ ts))).all (fun i => decide (i < ops.size)) && decide ((ps ++ (ls ++ (us ++ ts))).length = ops.size) && ps.all (fun i => !(ls ++ us).contains i) && ts.all (fun i => !(ls ++ us).contains i) &&
 (match pureL md ops ps (Array.replicate ops.size false) with | none => false | some l => match takeL md ops (ls ++ us) ls l with | none => false | some l1 => match soloL md ops us l1 with | none => false | some l2 => seqL md ops ts l2)
theorem region_free {P : Program} {C : World → Prop} {id : Nat} {Q : Exit → Act → World → Prop} {a : Act} {w : World} {l : List Oper} (ps ls us ts : List Nat) (hm : P.follows .mixedOrders = true) (hB : freeB .any l.toArray ps ls us ts = true)
 (hQ : ∀ (d : Option Tmp) (v : Value) c (a : Act) w, Q (.panic c) (a.put d v) w → Q (.panic c) a w) (hC : C { w with drawn := w.drawn + 1 })
 (h : wpPure P l.toArray (wpTake P l.toArray C (fun a' => wpU P l.toArray Q C (ts.filterMap fun i => l[i]?) (us.filterMap fun i => l[i]?) a' { w with drawn := w.drawn + 1 }) (ls.filterMap fun i => l[i]?)) (ps.filterMap fun i => l[i]?) a) : (Code.region id l.toArray true).wp P Q a w := by
 simp only [freeB, Bool.and_eq_true, decide_eq_true_eq] at hB
 obtain ⟨⟨⟨⟨⟨hsel, hlt⟩, hlen⟩, hps⟩, hts⟩, hs⟩ := hB
 cases hp : pureL .any l.toArray ps (Array.replicate l.toArray.size false) with
 | none => rw [hp] at hs; cases hs
 | some l0 =>
   rw [hp] at hs
   cases hq : takeL .any l.toArray (ls ++ us) ls l0 with
   | none => simp only [hq] at hs; cases hs
   | some l1 =>
     simp only [hq] at hs
     cases hu : soloL .any l.toArray us l1 with
     | none => simp only [hu] at hs; cases hs
     | some l2 =>
       simp only [hu] at hs
       have hlt' : ∀ i ∈ ps ++ (ls ++ (us ++ ts)), i < l.toArray.size := fun i hi => by simpa using List.all_eq_true.1 hlt i hi
       have hps' : ∀ i ∈ ps, i ∉ ls ++ us := fun i hi => by simpa using List.all_eq_true.1 hps i hi
       have hts' : ∀ i ∈ ts, i ∉ ls ++ us := fun i hi => by simpa using List.all_eq_true.1 hts i hi
       have hg : ∀ (m : List Nat), (m.filterMap fun i => l[i]?) = m.filterMap fun i => l.toArray[i]? := fun m => by simp
       rw [hg ps, hg ls, hg us, hg ts] at h
       refine wp_region_any hm (any_of_F (C := C) (E := ls ++ us) _ _ _ _ ?_)
       have h1 := pureL_size ps _ hp
       have R := F_pures (P := P) (md := .any) (ops := l.toArray) (E := ls ++ us) (Q := Q) (C := C) (hsel := hsel) hQ (ls.length + (us.length + ts.length)) (w := { w with drawn := w.drawn + 1 }) ps (Array.replicate l.toArray.size false) a
        (fun i hi => hlt' i (List.mem_append.2 (.inl hi))) hps' hp h
        (fun a' hr => F_takes (hsel := hsel) hQ (us.length + ts.length) hC ls l0 a' (fun i hi => hlt' i (List.mem_append.2 (.inr (List.mem_append.2 (.inl hi))))) (by rw [h1]; simp) hq hr
          (fun a2 hr2 => F_us (fun i hi => hlt' i (List.mem_append.2 (.inr (List.mem_append.2 (.inr (List.mem_append.2 (.inr hi))))))) hts' hs us l1 a2 _ (fun i hi => hlt' i (List.mem_append.2 (.inr (List.mem_append.2 (.inr (List.mem_append.2 (.inl hi))))))) hu hr2))
       have e : ps.length + (ls.length + (us.length + ts.length)) = l.toArray.size := by rw [← hlen, List.length_append, List.length_append, List.length_append]
       rw [e] at R
       exact R
theorem free_grown {id : Nat} {Q : Exit → Act → World → Prop} {a : Act} {w : World} {l : List Oper} (ps ls us ts : List Nat) (hB : freeB .any l.toArray ps ls us ts = true)
 (hQ : ∀ (d : Option Tmp) (v : Value) c (a : Act) w, Q (.panic c) (a.put d v) w → Q (.panic c) a w)
 (h : wpPure Tryz.prog l.toArray (wpTake Tryz.prog l.toArray (Gr w) (fun a' => wpU Tryz.prog l.toArray Q (Gr w) (ts.filterMap fun i => l[i]?) (us.filterMap fun i => l[i]?) a' w.drew) (ls.filterMap fun i => l[i]?)) (ps.filterMap fun i => l[i]?) a) :
 (Code.region id l.toArray true).wp Tryz.prog Q a w :=
 region_free ps ls us ts mixed hB hQ ((Gr.refl w).drewN 1) h
end Go.Proofs.OGW
