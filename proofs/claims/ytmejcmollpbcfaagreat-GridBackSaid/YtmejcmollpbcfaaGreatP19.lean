import Derived.Test.YtmejcmollpbcfaaGreatP00
import Derived.Test.YtmejcmollpbcfaaGreatP01
set_option linter.all false
namespace Go.Proofs.OGW
open Go.RowKit Go.Sort
def noQ : Exit → Act → World → Prop := fun _ _ _ => False
def relW (P : Program) (w0 : World) (S : Nat → Value → World → Prop) (Q : Act → World → Prop) : List Oper → Nat → Act → (Nat → World → Prop) → Prop
 | [], i, a, H => ∀ w, Gr w0 w → (∀ j, j < i → H j w) → Q a w
 | o :: r, i, a, H => (∀ w, Gr w0 w → (∀ j, (o.after.any fun e => Region.binds .any e && e.on == j) = true → H j w) → ∀ K : Act → World → Prop, Hid (∀ v w', Gr w w' → S i v w' → K (a.put o.dst v) w') → o.wp P a w K noQ) ∧
    ∀ v, relW P w0 S Q r (i + 1) (a.put o.dst v) (fun j w => if j = i then S i v w else H j w)
def putsN (vs : Nat → Value) : List Oper → Nat → Act → Act
 | [], _, a => a
 | o :: r, i, a => putsN vs r (i + 1) (a.put o.dst (vs i))
theorem putsN_append (vs : Nat → Value) : ∀ (l m : List Oper) (i : Nat) (a : Act), putsN vs (l ++ m) i a = putsN vs m (i + l.length) (putsN vs l i a)
 | [], m, i, a => rfl
 | o :: l, m, i, a => by rw [List.cons_append, putsN, putsN, putsN_append vs l m, List.length_cons]; congr 1; omega
def relB (md : Region.Mode) (l : List Oper) : Bool :=
 Region.noSelect l.toArray && (l.all fun o => o.guard.isNone && o.dst.isSome && (match o.op with | .defer _ => false | _ => true)) && decide (l.map Oper.dst).Nodup &&
 ((List.range l.length).all fun i => match l[i]? with
   | none => false
   | some o => (o.after.all fun e => !Region.binds md e || decide (e.on < i)) &&
      ((List.range l.length).all fun j => match l[j]? with
        | none => false
        | some q => match q.dst with
          | none => false
          | some d => !(o.op.operands.any fun x => match x with | .tmp t => t == d | _ => false) || (o.after.any fun e => Region.binds md e && e.on == j)))
theorem tZ46 {P : Prop} (h : P := by
 simp only [List.getElem?_cons_zero, Option.some.injEq] at ho'
 subst ho'
 refine h1 w hg (fun j hj => ?_) K (by simpa [putsN] using hK)
 obtain ⟨e, he, hb⟩ := Array.any_eq_true'.1 hj
 simp only [Bool.and_eq_true, beq_iff_eq] at hb
 exact (hH j w (by have := hlt e he hb.1; omega)).2 (hs j hj)) : P := h
theorem tZ71 {P : Prop} (h : P := by
 have := ih.1 k o' (by simpa using ho') (fun e he hb => by have := hlt e he hb; omega) w hg hs K (by rw [show i + 1 + k = i + (k + 1) by omega]; simpa [putsN] using hK)
 simpa [putsN] using this) : P := h
theorem tZ12 {P : Prop} (h : P := by
 refine execOp_congr o (fun cs bb => hsel i o cs bb hol) fun x hx => ?_
 cases x with
 | tmp t =>
   have ht : b.tmps[t]? = (putsN vs (l.take i) 0 a).tmps[t]? := by
    by_cases hx2 : ∃ (j : Nat) (q : Oper), l[j]? = some q ∧ q.dst = some t
    ·obtain ⟨j, q, hq, hqd⟩ := hx2
     have hj := hrd j q t hq hqd hx
     obtain ⟨e, he, hb⟩ := Array.any_eq_true'.1 hj
     simp only [Bool.and_eq_true, beq_iff_eq] at hb
     have hji : j < i := by have := hdlt e he hb.1; omega
     have hlj : listed.getD j false = true := by have := hdep e he hb.1; rw [hb.2] at this; exact this
     rw [I.put j q t hq hlj hqd, putsN_at vs t (l.take i) 0 j a q (by rw [List.map_take]; exact hnd.sublist (List.take_sublist _ _)) (by rw [List.getElem?_take, if_pos hji]; exact hq) hqd (hsz j q t hq hqd), Nat.zero_add]
    ·rw [I.old t (fun j q hq hqd => absurd ⟨j, q, hq, hqd⟩ hx2), putsN_other vs t (l.take i) 0 a (fun q hq hqd => by
      obtain ⟨j, hj⟩ := List.getElem?_of_mem (List.mem_of_mem_take hq)
      exact hx2 ⟨j, q, hj, hqd⟩)]
   simp [Act.eval, ht]
 | _ => rfl) : P := h
theorem tZ16 {P : Prop} (h : P := by
 have ht : b.tmps = (putsN vs l 0 a).tmps := by
  apply Array.ext_getElem?
  intro t
  by_cases hx : ∃ (i : Nat) (o : Oper), l[i]? = some o ∧ o.dst = some t
  ·obtain ⟨i, o, ho, hd⟩ := hx
   rw [I.put i o t ho (hall i (gO ho).1) hd, putsN_at vs t l 0 i a o hnd ho hd (hsz i o t ho hd), Nat.zero_add]
  ·rw [I.old t (fun i o ho hd => absurd ⟨i, o, ho, hd⟩ hx), putsN_other vs t l 0 a (fun o ho hd => by
    obtain ⟨i, hi⟩ := List.getElem?_of_mem ho
    exact hx ⟨i, o, hi, hd⟩)]
 have hd : b.defers = (putsN vs l 0 a).defers := by rw [I.defers, (putsN_size vs l 0 a).2]
 cases b
 cases hp : putsN vs l 0 a
 rw [hp] at ht hd
 simp only at ht hd
 rw [ht, hd]) : P := h
theorem tZ30 {P : Prop} (h : P := by
 have hne : d ≠ t := by
  intro e
  subst e
  have h1 : (l.map Oper.dst)[i]? = some (some d) := by rw [List.getElem?_map, hol]; simp [hd]
  have h2 : (l.map Oper.dst)[j]? = some (some d) := by rw [List.getElem?_map, hq]; simp [hqt]
  exact hij (((List.getElem?_inj (by simpa using (gO hq).1) hnd).1 (h2.trans h1.symm)))
 rw [hd]
 simp only [Act.put]
 rw [Array.getElem?_setIfInBounds_ne hne]
 exact I.put j q t hq hlj hqt) : P := h
theorem tZ55 {P : Prop} (h : P := by
 rw [hd]
 simp only [Act.put]
 rw [Array.getElem?_setIfInBounds_ne hne]
 refine I.old t fun j q hq hqt => ?_
 by_cases hij : j = i
 ·subst hij; exact getD_both hun
 ·have := ht j q hq hqt
  rwa [getD_set_ne false (Ne.symm hij)] at this) : P := h
theorem tZ69 {P : Prop} (h : P := by
 obtain ⟨e, he, hb⟩ := Array.any_eq_true'.1 hj
 simp only [Bool.and_eq_true, beq_iff_eq] at hb
 have h1 := hdlt e he hb.1
 have h2 := hdep e he hb.1
 rw [hb.2] at h1 h2
 exact I.vals j (by omega) h2) : P := h
theorem tZ95 {P : Prop} (h : P := by
 obtain rfl := Option.some.inj hq
 simp only [if_true]
 rw [hqt]
 have : t < b.tmps.size := by rw [I.bsize]; exact hsz j o t hol hqt
 simp [Act.put, this]) : P := h
section
variable {P : Program} {w0 : World} {S : Nat → Value → World → Prop} {Q : Act → World → Prop}
theorem relW_at (vs : Nat → Value) : ∀ (l : List Oper) (i : Nat) (a : Act) (H : Nat → World → Prop), relW P w0 S Q l i a H → (∀ j w, j < i → (H j w ↔ S j (vs j) w)) →
 (∀ k o, l[k]? = some o → (∀ e ∈ o.after, Region.binds .any e = true → e.on < i + k) → ∀ w, Gr w0 w → (∀ j, (o.after.any fun e => Region.binds .any e && e.on == j) = true → S j (vs j) w) →
   ∀ K : Act → World → Prop, Hid (∀ v w', Gr w w' → S (i + k) v w' → K ((putsN vs (l.take k) i a).put o.dst v) w') → o.wp P (putsN vs (l.take k) i a) w K noQ) ∧
 ∀ w, Gr w0 w → (∀ j, j < i + l.length → S j (vs j) w) → Q (putsN vs l i a) w
 | [], i, a, H, h, hH => ⟨fun k o ho => by simp at ho, fun w hg hs => h w hg fun j hj => (hH j w hj).2 (hs j (by simpa using hj))⟩
 | o :: r, i, a, H, h, hH => by
   obtain ⟨h1, h2⟩ := h
   have ih := relW_at vs r (i + 1) (a.put o.dst (vs i)) _ (h2 (vs i)) (fun j w hj => by
    by_cases e : j = i
    ·subst e; simp
    ·simp only [if_neg e]; exact hH j w (by omega))
   refine ⟨fun k o' ho' hlt w hg hs K hK => ?_, fun w hg hs => ?_⟩
   ·cases k with
    | zero =>
      exact tZ46
    | succ k =>
      exact tZ71
   ·have := ih.2 w hg (fun j hj => hs j (by simp; omega))
    simpa [putsN] using this
theorem wp_move {o : Oper} {a a' : Act} {w : World} {R : Value → World → Prop} {K : Act → World → Prop} {Q' : Exit → Act → World → Prop} (he : execOp a'.eval o = execOp a.eval o)
 {d : Tmp} (hdst : o.dst = some d) (hsz : d < a.tmps.size) (h : ∀ K : Act → World → Prop, Hid (∀ v w', R v w' → K (a.put o.dst v) w') → o.wp P a w K noQ) (hK : ∀ v w', R v w' → K (a'.put o.dst v) w') : o.wp P a' w K Q' := by
 have h1 := h (fun b w' => ∃ v, b = a.put o.dst v ∧ R v w') (fun v w' hr => ⟨v, rfl, hr⟩)
 have inj : ∀ u v, a.put o.dst u = a.put o.dst v → u = v := by
  intro u v e
  rw [hdst] at e
  simp only [Act.put, Act.mk.injEq] at e
  have := congrArg (fun (x : Array Value) => x[d]?) e.1
  simpa [hsz] using this
 unfold Oper.wp at *
 rw [he]
 generalize hr : (execOp a.eval o).run P w = r at *
 cases r with
 | ok n w' =>
   cases n <;> simp only [Oper.upon] at h1 ⊢
   case value v => obtain ⟨u, e, hu⟩ := h1; rw [inj _ _ e]; exact hK _ _ hu
   case skip => obtain ⟨u, e, hu⟩ := h1; rw [inj _ _ e]; exact hK _ _ hu
   case enter f args =>
    refine Calls.mono h1 fun e w'' he => ?_
    cases e with
    | returned v => obtain ⟨u, e, hu⟩ := he; show K _ _; rw [inj _ _ e]; exact hK _ _ hu
    | panicked c => exact he.elim
    | outgrown => exact absurd he (by intro hl; first | exact hl | (simp [LetsOut, noQ] at hl))
   case row row args => exact Rows.mono h1 fun v w'' ⟨u, e, hu⟩ => by rw [inj _ _ e]; exact hK _ _ hu
   case defer dd =>
    obtain ⟨u, e, _⟩ := h1
    have := congrArg Act.defers e
    rw [hdst] at this
    simp [Act.put] at this
 | halt x w' =>
   cases x <;> simp only [Oper.upon] at h1 ⊢
   case panic u => exact h1.elim
theorem putsN_size (vs : Nat → Value) : ∀ (l : List Oper) (i : Nat) (a : Act), (putsN vs l i a).tmps.size = a.tmps.size ∧ (putsN vs l i a).defers = a.defers
 | [], _, _ => ⟨rfl, rfl⟩
 | o :: r, i, a => by
   obtain ⟨h1, h2⟩ := putsN_size vs r (i + 1) (a.put o.dst (vs i))
   rw [putsN, h1, h2]
   cases o.dst <;> simp [Act.put]
theorem putsN_other (vs : Nat → Value) (t : Nat) : ∀ (l : List Oper) (i : Nat) (a : Act), (∀ o ∈ l, o.dst ≠ some t) → (putsN vs l i a).tmps[t]? = a.tmps[t]?
 | [], _, _, _ => rfl
 | o :: r, i, a, h => by
   rw [putsN, putsN_other vs t r (i + 1) _ (fun q hq => h q (List.mem_cons_of_mem _ hq))]
   have h0 := h o (by simp)
   cases hd : o.dst with
   | none => rfl
   | some d =>
     have hne : d ≠ t := fun e => h0 (by rw [hd, e])
     simp [Act.put, Array.getElem?_setIfInBounds_ne hne]
theorem putsN_at (vs : Nat → Value) (t : Nat) : ∀ (l : List Oper) (i k : Nat) (a : Act) (o : Oper), (l.map Oper.dst).Nodup → l[k]? = some o → o.dst = some t → t < a.tmps.size → (putsN vs l i a).tmps[t]? = some (vs (i + k))
 | [], _, _, _, _, _, h, _, _ => by simp at h
 | q :: r, i, 0, a, o, hn, h, hd, hs => by
   simp only [List.getElem?_cons_zero, Option.some.injEq] at h
   subst h
   rw [List.map_cons, List.nodup_cons] at hn
   rw [putsN, putsN_other vs t r (i + 1) _ (fun p hp e => hn.1 (List.mem_map.2 ⟨p, hp, by rw [e, hd]⟩)), hd]
   simp [Act.put, hs]
 | q :: r, i, k + 1, a, o, hn, h, hd, hs => by
   rw [List.map_cons, List.nodup_cons] at hn
   rw [putsN, putsN_at vs t r (i + 1) k _ o hn.2 (by simpa using h) hd (by cases q.dst <;> simp [Act.put, hs])]
   congr 2; omega
theorem getD_self {listed : Array Bool} {i : Nat} (h : i < listed.size) : (listed.setIfInBounds i true).getD i false = true := by simp [Array.getD, h]
structure RInv (l : List Oper) (a : Act) (w : World) (S : Nat → Value → World → Prop) (listed : Array Bool) (vs : Nat → Value) (b : Act) (w1 : World) (rem : List Nat) : Prop where
 size : listed.size = l.length
 gr : Gr w w1
 nd : rem.Nodup
 left : ∀ i, i < l.length → (listed.getD i false = false ↔ i ∈ rem)
 lt : ∀ i ∈ rem, i < l.length
 vals : ∀ i, i < l.length → listed.getD i false = true → S i (vs i) w1
 defers : b.defers = a.defers
 bsize : b.tmps.size = a.tmps.size
 put : ∀ (i : Nat) (o : Oper) (t : Nat), l[i]? = some o → listed.getD i false = true → o.dst = some t → b.tmps[t]? = some (vs i)
 old : ∀ (t : Nat), (∀ (i : Nat) (o : Oper), l[i]? = some o → o.dst = some t → listed.getD i false = false) → b.tmps[t]? = a.tmps[t]?
theorem relB_spec {l : List Oper} (h : relB .any l = true) : (l.map Oper.dst).Nodup ∧ (∀ (j : Nat) (o : Oper) cs b, l[j]? = some o → o.op ≠ .select cs b) ∧ (∀ (i : Nat) (o : Oper), l[i]? = some o → o.guard = none ∧ (∃ d, o.dst = some d) ∧
 (∀ e ∈ o.after, Region.binds .any e = true → e.on < i) ∧ ∀ (j : Nat) (q : Oper) (d : Nat), l[j]? = some q → q.dst = some d → (Operand.tmp d) ∈ o.op.operands → (o.after.any fun e => Region.binds .any e && e.on == j) = true) := by
 simp only [relB, Bool.and_eq_true, decide_eq_true_eq] at h
 obtain ⟨⟨⟨h1, h2⟩, h3⟩, h4⟩ := h
 refine ⟨h3, fun j o cs b hj => Region.noSelect_spec h1 j o cs b (by simpa using hj), fun i o ho => ?_⟩
 have hi : i < l.length := (gO ho).1
 have ha := List.all_eq_true.1 h2 o (List.mem_of_getElem? ho)
 simp only [Bool.and_eq_true, Option.isNone_iff_eq_none, Option.isSome_iff_exists] at ha
 have hb := List.all_eq_true.1 h4 i (List.mem_range.2 hi)
 rw [ho] at hb
 simp only [Bool.and_eq_true] at hb
 refine ⟨ha.1.1, ha.1.2, fun e he hbd => ?_, fun j q d hq hd hx => ?_⟩
 ·have := Array.all_eq_true_iff_forall_mem.1 hb.1 e he
  simp only [Bool.or_eq_true, Bool.not_eq_true', decide_eq_true_eq] at this
  rcases this with h | h
  ·rw [hbd] at h; cases h
  ·exact h
 ·have hj : j < l.length := (gO hq).1
  have := List.all_eq_true.1 hb.2 j (List.mem_range.2 hj)
  rw [hq] at this
  simp only [hd, Bool.or_eq_true, Bool.not_eq_true'] at this
  rcases this with h | h
  ·have : (o.op.operands.any fun x => match x with | .tmp t => t == d | _ => false) = true := by
    first
     | exact List.any_eq_true.2 ⟨.tmp d, hx, by simp⟩
     | exact Array.any_eq_true'.2 ⟨.tmp d, hx, by simp⟩
   rw [this] at h; cases h
  ·exact h
theorem rel_any {Q' : Exit → Act → World → Prop} {l : List Oper} {a : Act} {w : World} (hB : relB .any l = true) (hsz : ∀ (i : Nat) (o : Oper) (d : Nat), l[i]? = some o → o.dst = some d → d < a.tmps.size)
 (hS : ∀ i v w w', Gr w w' → S i v w → S i v w')
 (hO : ∀ (vs : Nat → Value) (k : Nat) (o : Oper), l[k]? = some o → ∀ w1, Gr w w1 → (∀ j, (o.after.any fun e => Region.binds .any e && e.on == j) = true → S j (vs j) w1) →
   ∀ K : Act → World → Prop, Hid (∀ v w', Gr w1 w' → S k v w' → K ((putsN vs (l.take k) 0 a).put o.dst v) w') → o.wp P (putsN vs (l.take k) 0 a) w1 K noQ)
 (hF : ∀ (vs : Nat → Value) w1, Gr w w1 → (∀ j, j < l.length → S j (vs j) w1) → Q' .normal (putsN vs l 0 a) w1) :
 ∀ (fuel : Nat) (listed : Array Bool) (vs : Nat → Value) (b : Act) (w1 : World) (rem : List Nat), RInv l a w S listed vs b w1 rem → rem.length ≤ fuel → wpAny P .any l.toArray Q' fuel listed b w1 := by
 obtain ⟨hnd, hsel, hop⟩ := relB_spec hB
 have done : ∀ (listed : Array Bool) (vs : Nat → Value) (b : Act) (w1 : World) (rem : List Nat), RInv l a w S listed vs b w1 rem → (∀ i, i < l.length → listed.getD i false = true) → Q' .normal b w1 := by
  intro listed vs b w1 rem I hall
  have e : b = putsN vs l 0 a := by
   exact tZ16
  rw [e]
  exact hF vs w1 I.gr fun j hj => I.vals j hj (hall j hj)
 intro fuel
 induction fuel with
 | zero =>
   intro listed vs b w1 rem I hl
   have hr : rem = [] := List.eq_nil_of_length_eq_zero (by omega)
   have hall : ∀ i, i < l.length → listed.getD i false = true := fun i hi => by
    cases h : listed.getD i false with
    | true => rfl
    | false => have := (I.left i hi).1 h; rw [hr] at this; cases this
   refine ⟨List.eq_nil_iff_forall_not_mem.2 fun i hi => ?_, done _ _ _ _ _ I hall⟩
   have hm := mem_ready.1 hi
   obtain ⟨h0, o, ho, _⟩ := hm
   have hi' : i < l.length := by simpa using (Array.getElem?_eq_some_iff.1 ho).1
   have := hall i hi'
   rw [getD_both h0] at this
   cases this
 | succ fuel ih =>
   intro listed vs b w1 rem I hl
   refine ⟨fun hr => done _ _ _ _ _ I ?_, fun i hi => ?_⟩
   ·intro i
    induction i using Nat.strongRecOn with
    | _ i ihi =>
      intro hlt
      cases hc : listed.getD i false with
      | true => rfl
      | false =>
        exfalso
        obtain ⟨o, ho⟩ : ∃ o, l[i]? = some o := ⟨_, gE hlt⟩
        have : i ∈ Region.ready .any l.toArray listed := by
         refine mem_ready.2 ⟨getD_in (by rw [I.size]; exact hlt) hc, o, by simpa using ho, fun e he hb => ?_⟩
         have hlt2 := (hop i o ho).2.2.1 e he hb
         exact ihi e.on hlt2 (by omega)
        rw [hr] at this
        cases this
   ·obtain ⟨hun, o, ho, hdep⟩ := mem_ready.1 hi
    have hol : l[i]? = some o := by simpa using ho
    have hil : i < l.length := (gO hol).1
    obtain ⟨hg, ⟨d, hd⟩, hdlt, hrd⟩ := hop i o hol
    have hirem : i ∈ rem := (I.left i hil).1 (getD_both hun)
    have heval : execOp b.eval o = execOp (putsN vs (l.take i) 0 a).eval o := by
     exact tZ12
    unfold wpOp
    rw [ho]
    simp only []
    rw [if_pos (by unfold Region.wanted; rw [hg])]
    left
    have hj0 : ∀ j, (o.after.any fun e => Region.binds .any e && e.on == j) = true → S j (vs j) w1 := fun j hj => by
     exact tZ69
    refine wp_move (R := fun v w' => Gr w1 w' ∧ S i v w') heval hd (by rw [(putsN_size vs (l.take i) 0 a).1]; exact hsz i o d hol hd)
     (fun K hK => hO vs i o hol w1 I.gr hj0 K (fun v w' h1 h2 => hK v w' ⟨h1, h2⟩)) (fun v w' hR => ?_)
    refine ih (listed.setIfInBounds i true) (fun j => if j = i then v else vs j) (b.put o.dst v) w' (rem.erase i) ⟨by simp [I.size], I.gr.trans hR.1, I.nd.erase _, ?_, ?_, ?_, ?_, ?_, ?_, ?_⟩ ?_
    ·intro j hj
     by_cases hij : i = j
     ·subst hij
      rw [List.Nodup.mem_erase_iff I.nd]
      rw [getD_self (by rw [I.size]; exact hil)]; simp
     ·rw [getD_set_ne false hij, List.Nodup.mem_erase_iff I.nd, I.left j hj]
      exact ⟨fun h => ⟨Ne.symm hij, h⟩, fun h => h.2⟩
    ·exact fun j hj => I.lt j (List.mem_of_mem_erase hj)
    ·intro j hj hlj
     by_cases hij : j = i
     ·subst hij; simp only [if_true]; exact hR.2
     ·rw [getD_set_ne false (Ne.symm hij)] at hlj
      simp only [if_neg hij]
      exact hS j _ _ _ hR.1 (I.vals j hj hlj)
    ·rw [hd]; exact I.defers
    ·rw [hd]; simp [Act.put, I.bsize]
    ·intro j q t hq hlj hqt
     by_cases hij : j = i
     ·subst hij
      rw [hol] at hq
      exact tZ95
     ·rw [getD_set_ne false (Ne.symm hij)] at hlj
      simp only [if_neg hij]
      exact tZ30
    ·intro t ht
     have hne : d ≠ t := by
      intro e
      have := ht i o hol (by rw [hd, e])
      rw [getD_self (by rw [I.size]; exact hil)] at this
      cases this
     exact tZ55
    ·rw [List.length_erase_of_mem hirem]; omega
theorem region_rel {id : Nat} {Q' : Exit → Act → World → Prop} {l : List Oper} {a : Act} {w : World} (S : Nat → Value → World → Prop) (hm : P.follows .mixedOrders = true) (hB : relB .any l = true)
 (hsz : (l.all fun o => match o.dst with | some d => decide (d < a.tmps.size) | none => false) = true) (hS : ∀ i v w w', Gr w w' → S i v w → S i v w') (h : relW P w S (fun b w1 => Q' .normal b w1) l 0 a (fun _ _ => True)) :
 (Code.region id l.toArray true).wp P Q' a w := by
 have hsz' : ∀ (i : Nat) (o : Oper) (d : Nat), l[i]? = some o → o.dst = some d → d < a.tmps.size := fun i o d ho hd => by
  have := List.all_eq_true.1 hsz o (List.mem_of_getElem? ho)
  rw [hd] at this
  simpa using this
 have hat := fun vs => relW_at (S := S) (Q := fun b w1 => Q' .normal b w1) vs l 0 a (fun _ _ => True) h (fun j w hj => by omega)
 obtain ⟨hnd, hsel, hop⟩ := relB_spec hB
 refine wp_region_any hm (rel_any (S := S) (w := w) hB hsz' hS (fun vs k o ho w1 hg hs K hK => ?_) (fun vs w1 hg hs => (hat vs).2 w1 hg (fun j hj => hs j (by simpa using hj))) _ _ (fun _ => undef) a _ (List.range l.length) ?_ (by simp))
 ·refine (hat vs).1 k o ho (fun e he hb => by have := (hop k o ho).2.2.1 e he hb; omega) w1 hg hs K ?_
  rw [Nat.zero_add]
  exact hK
 ·refine ⟨by simp, (Gr.refl w).drewN 1, List.nodup_range, fun i hi => ?_, fun i hi => List.mem_range.1 hi, fun i hi hl => ?_, rfl, rfl, fun i o t ho hl _ => ?_, fun t _ => rfl⟩
  ·simp [getD_replicate_false, hi]
  ·rw [getD_replicate_false] at hl; cases hl
  ·rw [getD_replicate_false] at hl; cases hl
end
theorem put_lit (t : Array Value) (d : List Deferred) (k : Tmp) (v : Value) : ({ tmps := t, defers := d } : Act).put (some k) v = { tmps := t.setIfInBounds k v, defers := d } := rfl
def isV (c : Value) : Value → World → Prop := fun v _ => v = c
def relS (L : List (Value → World → Prop)) (i : Nat) (v : Value) (w : World) : Prop := match L[i]? with | some p => p v w | none => True
def MonoL : List (Value → World → Prop) → Prop
 | [] => True
 | p :: r => (∀ v w w', Gr w w' → p v w → p v w') ∧ MonoL r
theorem isV_mono (c : Value) : ∀ v w w', Gr w w' → isV c v w → isV c v w' := fun _ _ _ _ h => h
theorem relS_mono : ∀ {L : List (Value → World → Prop)}, MonoL L → ∀ i v w w', Gr w w' → relS L i v w → relS L i v w'
 | [], _, _, _, _, _, _, h => by simpa [relS] using h
 | p :: r, hm, 0, v, w, w', hg, h => by simp only [relS, List.getElem?_cons_zero] at h ⊢; exact hm.1 v w w' hg h
 | p :: r, hm, i + 1, v, w, w', hg, h => by
   have := relS_mono hm.2 i v w w' hg (by simpa [relS] using h)
   simpa [relS] using this
end Go.Proofs.OGW
namespace OG
theorem PermAll.length {α : Type} {a b : List (List α)} (h : PermAll a b) : a.length = b.length := by
 induction h with
 | nil => rfl
 | cons _ _ ih => simp [ih]
theorem place_ne (z : Sz) (d : Int) (t : Tree) (x y : Int) (h : Ok z d t) : place z d t x y ≠ [] := by
 obtain ⟨p, hp, _⟩ := (geo z t d x y h).dx.first
 intro h0
 rw [h0] at hp
 simp at hp
theorem perm2 {α : Type} {a b : α} {L1 L2 : List α} (h : [a, b].Perm (L1 ++ L2)) (h1 : L1 ≠ []) (h2 : L2 ≠ []) : (a ∈ L1 ∧ b ∈ L2) ∨ (b ∈ L1 ∧ a ∈ L2) := by
 have hl := h.length_eq
 simp only [List.length_cons, List.length_nil, List.length_append] at hl
 have e1 : L1.length ≠ 0 := fun e => h1 (List.eq_nil_of_length_eq_zero e)
 have e2 : L2.length ≠ 0 := fun e => h2 (List.eq_nil_of_length_eq_zero e)
 obtain ⟨p, rfl⟩ := List.length_eq_one_iff.1 (show L1.length = 1 by omega)
 obtain ⟨q, rfl⟩ := List.length_eq_one_iff.1 (show L2.length = 1 by omega)
 have ha := (h.mem_iff (a := a)).1 (by simp)
 simp only [List.singleton_append, List.mem_cons, List.not_mem_nil, or_false] at ha h ⊢
 rcases ha with rfl | rfl
 ·exact .inl ⟨rfl, List.singleton_perm_singleton.1 (List.perm_cons a |>.1 h)⟩
 ·exact .inr ⟨List.singleton_perm_singleton.1 (List.perm_cons a |>.1 (h.trans (List.Perm.swap _ _ _))), rfl⟩
theorem apart_no {ac : Bool} {p q : PB} (hp : fr ac p < to ac p) (hq : fr ac q < to ac q) (h : to ac p ≤ fr ac q) : holdsP p q = false ∧ holdsP q p = false := by
 unfold holdsP
 cases ac <;> simp only [fr, to, ex, Bool.false_eq_true, if_true, if_false] at hp hq h <;> constructor <;> simp only [Bool.and_eq_false_iff, decide_eq_false_iff_not]
 ·by_cases h1 : q.y + q.h ≤ p.y + p.h
  ·grind
  ·exact .inr h1
 ·by_cases h1 : q.y ≤ p.y
  ·grind
  ·exact .inl (.inl (.inr h1))
 ·by_cases h1 : q.x + q.w ≤ p.x + p.w
  ·grind
  ·exact .inl (.inr h1)
 ·by_cases h1 : q.x ≤ p.x
  ·grind
  ·exact .inl (.inl (.inl (.inr h1)))
theorem rows_two {ac : Bool} {ap : Rat → Bool} {B : List PB} {Bs : List (List PB)} {lo : Rat} (h : Rows ac ap (B :: Bs) lo) (hn : Bs ≠ []) {a b : PB} (hp : [a, b].Perm (B :: Bs).flatten) : holdsP a b = false ∧ holdsP b a = false := by
 cases h with
 | one _ _ => exact absurd rfl hn
 | @cons _ lo hi g lo' _ h hap hlt ha r =>
   have hb : Bs.flatten ≠ [] := by obtain ⟨c, hc, _⟩ := r.first; intro e; rw [e] at hc; cases hc
   have hB : B ≠ [] := by obtain ⟨c, hc, _⟩ := h.first; intro e; rw [e] at hc; cases hc
   have pos : ∀ c ∈ Bs.flatten, fr ac c < to ac c := by
    clear hp hb hB hn hlt ha
    induction r with
    | one h _ => intro c hc; exact h.pos c (by simpa using hc)
    | cons h _ _ _ _ ih =>
      intro c hc
      rw [List.flatten_cons, List.mem_append] at hc
      rcases hc with hc | hc
      ·exact h.pos c hc
      ·exact ih c hc
   rw [List.flatten_cons] at hp
   rcases perm2 hp hB hb with ⟨h1, h2⟩ | ⟨h1, h2⟩
   ·have := h.high a h1; have := r.low b h2
    exact apart_no (h.pos a h1) (pos b h2) (by grind)
   ·have := h.high b h1; have := r.low a h2
    exact (apart_no (h.pos b h1) (pos a h2) (by grind)).symm
theorem parts_one {ac : Bool} {ap : Rat → Bool} {B l : List PB} {lo hi g : Rat} {parts : List (List PB)} (h : DenseR ac B lo hi g) (hap : ∀ x, x ≤ g → ap x = false) (hl : l.Perm B) (hs : SplitR ac ap l parts) : parts.length = 1 := by
 obtain ⟨ys, h1, h2, rfl⟩ := hs
 have := (scan_rows (.one h hap) (by simpa using h1.trans hl) h2).length
 simpa using this
theorem parts_rows {ac : Bool} {ap : Rat → Bool} {Bs : List (List PB)} {l : List PB} {lo : Rat} {parts : List (List PB)} (h : Rows ac ap Bs lo) (hl : l.Perm Bs.flatten) (hs : SplitR ac ap l parts) : PermAll parts Bs := by
 obtain ⟨ys, h1, h2, rfl⟩ := hs
 exact scan_rows h (h1.trans hl) h2
theorem DivR_two {C : List PB → Option (List Nd) → Prop} {s : Rat} {f : Nat} {d : Int} {l : List PB} {r : Option (List Nd)} (h : CutR s (f + 1) d l r) (hl : 2 ≤ l.length) (hno : ∀ a b, l = [a, b] → holdsP a b = false ∧ holdsP b a = false) : DivR (CutR s f (d + 1)) s d l r := by
 match l, hl, h with
 | [a, b], _, h =>
   obtain ⟨h1, h2⟩ := hno a b rfl
   simp only [CutR, h1, h2, Bool.false_eq_true, if_false] at h
   exact h
 | a :: b :: c :: l, _, h => exact h
theorem flatten_len {α : Type} {B : List α} {Bs : List (List α)} (hB : B ≠ []) (hb : Bs.flatten ≠ []) : 2 ≤ (B :: Bs).flatten.length := by
 have e1 : B.length ≠ 0 := fun e => hB (List.eq_nil_of_length_eq_zero e)
 have e2 : Bs.flatten.length ≠ 0 := fun e => hb (List.eq_nil_of_length_eq_zero e)
 rw [List.flatten_cons, List.length_append]
 omega
theorem div_step {C : List PB → Option (List Nd) → Prop} {p : List (List PB)} {Bs : List (List PB)} {nodes : List Nd} {q : Option (List Nd)} (hpa : PermAll p Bs)
 (hall : ∀ p q, PermAll p Bs → AllR C p q → q = some nodes) (hq : AllR C p q) (b : Nd) : q.map (b :: ·) = some (b :: nodes) := by
 rw [hall p q hpa hq]; rfl
theorem two_of {ac : Bool} {ap : Rat → Bool} {B B2 : List PB} {Bs : List (List PB)} {lo : Rat} (hrows : Rows ac ap (B :: B2 :: Bs) lo) {l : List PB} (hp : l.Perm (B :: B2 :: Bs).flatten) : 2 ≤ l.length := by
 rw [hp.length_eq]
 cases hrows with
 | cons h _ _ _ r =>
   refine flatten_len ?_ ?_
   ·obtain ⟨c, hc, _⟩ := h.first; intro e; rw [e] at hc; cases hc
   ·obtain ⟨c, hc, _⟩ := r.first; intro e; rw [e] at hc; cases hc
theorem beside_step {σ : Rat} {f : Nat} {d : Int} {l : List PB} {r : Option (List Nd)} {Bs : List (List PB)} {lo : Rat} {nodes : List Nd} (h2 : 2 ≤ Bs.length) (hrows : Rows true (gapIs σ (sp d)) Bs lo) (hp : l.Perm Bs.flatten)
 (hall : ∀ p q, PermAll p Bs → AllR (CutR σ f (d + 1)) p q → q = some nodes) (hc : CutR σ (f + 1) d l r) : r = some (⟨bare 2, d⟩ :: nodes) := by
 obtain ⟨B, B2, Bs', rfl⟩ : ∃ B B2 Bs', Bs = B :: B2 :: Bs' := by
  match Bs, h2 with
  | B :: B2 :: Bs', _ => exact ⟨B, B2, Bs', rfl⟩
 obtain ⟨p, hsplit, hd⟩ := DivR_two (C := CutR σ f (d + 1)) hc (two_of hrows hp) (fun a b e => rows_two hrows (by simp) (by rw [← e]; exact hp))
 have hpa := parts_rows hrows hp hsplit
 have hpl : p.length ≠ 1 := by rw [hpa.length]; simp
 rw [if_pos hpl] at hd
 obtain ⟨q, hq, rfl⟩ := hd
 exact div_step hpa hall hq _
theorem above_step {σ : Rat} {f : Nat} {d : Int} {l B0 : List PB} {r : Option (List Nd)} {Bs : List (List PB)} {lo lo' hi' g : Rat} {nodes : List Nd} (h2 : 2 ≤ Bs.length) (hrows : Rows false (gapIs σ (sp d)) Bs lo) (hp : l.Perm Bs.flatten)
 (hx : DenseR true B0 lo' hi' g) (hg : ∀ x, x ≤ g → gapIs σ (sp d) x = false) (hl : l.Perm B0)
 (hall : ∀ p q, PermAll p Bs → AllR (CutR σ f (d + 1)) p q → q = some nodes) (hc : CutR σ (f + 1) d l r) : r = some (⟨bare 3, d⟩ :: nodes) := by
 obtain ⟨B, B2, Bs', rfl⟩ : ∃ B B2 Bs', Bs = B :: B2 :: Bs' := by
  match Bs, h2 with
  | B :: B2 :: Bs', _ => exact ⟨B, B2, Bs', rfl⟩
 obtain ⟨p, hsplit, hd⟩ := DivR_two (C := CutR σ f (d + 1)) hc (two_of hrows hp) (fun a b e => rows_two hrows (by simp) (by rw [← e]; exact hp))
 have h1 := parts_one hx hg hl hsplit
 rw [if_neg (by simpa using h1)] at hd
 obtain ⟨p', hsplit', hd⟩ := hd
 have hpa := parts_rows hrows hp hsplit'
 have hpl : p'.length ≠ 1 := by rw [hpa.length]; simp
 rw [if_pos hpl] at hd
 obtain ⟨q, hq, rfl⟩ := hd
 exact div_step hpa hall hq _
theorem len_two {α : Type} {l : List α} (h : l.length = 2) : ∃ p q, l = [p, q] := by
 match l, h with
 | [p, q], _ => exact ⟨p, q, rfl⟩
theorem over_step {σ : Rat} {f : Nat} {d : Int} {A B : PB} {l : List PB} {r : Option (List Nd)} (h1 : holdsP A B = true) (h2 : holdsP B A = false) (hp : l.Perm [A, B]) (hc : CutR σ (f + 1) d l r) : r = some (OverN d A B) := by
 have hl : l = [A, B] ∨ l = [B, A] := by
  have hl : l.length = 2 := by rw [hp.length_eq]; rfl
  obtain ⟨p, q, rfl⟩ := len_two hl
  clear hc h1 h2
  rcases perm2 (L1 := [A]) (L2 := [B]) hp (List.cons_ne_nil _ _) (List.cons_ne_nil _ _) with ⟨h1, h2⟩ | ⟨h1, h2⟩
  ·left; rw [List.mem_singleton.1 h1, List.mem_singleton.1 h2]
  ·right; rw [List.mem_singleton.1 h1, List.mem_singleton.1 h2]
 rcases hl with rfl | rfl
 ·simp only [CutR, h1, h2, Bool.false_eq_true, if_false, if_true] at hc
  exact hc
 ·simp only [CutR, h1, if_true] at hc
  exact hc
section
variable {σ x0 y0 : Rat} (hσ : 0 < σ) (z : Sz)
include hσ
theorem over_holds (a b : Lf) (ha : a.kind = 1) (hw : 0 < z.w a) (hh : 0 < z.h a) (x y : Int) :
 holdsP (aff (σ / 4) x0 y0 ⟨a, x, y, 4 * z.w a, 4 * z.h a⟩) (aff (σ / 4) x0 y0 ⟨b, x + z.w a, y + z.h a, 2 * z.w a, 2 * z.h a⟩) = true ∧
 holdsP (aff (σ / 4) x0 y0 ⟨b, x + z.w a, y + z.h a, 2 * z.w a, 2 * z.h a⟩) (aff (σ / 4) x0 y0 ⟨a, x, y, 4 * z.w a, 4 * z.h a⟩) = false := by
 have q := quarter_pos hσ
 have h1 := mul_lt' q hw
 have h2 := mul_lt' q hh
 simp only [Rat.intCast_zero, Rat.mul_zero] at h1 h2
 have e4 : ∀ n : Int, ((4 * n : Int) : Rat) = 4 * (n : Rat) := fun n => by rw [Rat.intCast_mul]; rfl
 have e2 : ∀ n : Int, ((2 * n : Int) : Rat) = 2 * (n : Rat) := fun n => by rw [Rat.intCast_mul]; rfl
 constructor
 ·unfold holdsP
  simp only [aff, ha, Bool.and_eq_true, decide_eq_true_eq, e4, e2, Rat.intCast_add, ne_eq, PB.mk.injEq]
  refine ⟨⟨⟨⟨⟨trivial, ?_⟩, ?_⟩, ?_⟩, ?_⟩, ?_⟩
  ·rintro ⟨_, hx, _⟩; grind
  ·grind
  ·grind
  ·grind
  ·grind
 ·unfold holdsP
  simp only [aff, Bool.and_eq_false_iff, decide_eq_false_iff_not, e4, e2, Rat.intCast_add]
  refine .inl (.inl (.inl (.inr ?_)))
  grind
mutual
theorem cut_tree : (t : Tree) → (f : Nat) → (d x y : Int) → (l : List PB) → (r : Option (List Nd)) → d + f = 5 → Ok z d t → Kd t → l.Perm ((place z d t x y).map (aff (σ / 4) x0 y0)) → CutR σ f d l r → r = some (flat d t)
 | .leaf a, 0, d, x, y, l, r, hf, h, hk, hp, hc => by have := h.2.2; omega
 | .leaf a, f + 1, d, x, y, l, r, hf, h, hk, hp, hc => by
   obtain rfl : l = _ := List.perm_singleton.1 hp
   simpa [CutR, flat, aff] using hc
 | .over a b, 0, d, x, y, l, r, hf, h, hk, hp, hc => by have := h.2.2; omega
 | .over a b, f + 1, d, x, y, l, r, hf, h, hk, hp, hc => by
   obtain ⟨h1, h2⟩ := over_holds hσ z (x0 := x0) (y0 := y0) a b hk.1 h.1 h.2.1 x y
   exact over_step h1 h2 hp hc
 | .beside ks, 0, d, x, y, l, r, hf, h, hk, hp, hc => by have := Ok.deep (z := z) (t := .beside ks) h; omega
 | .beside ks, f + 1, d, x, y, l, r, hf, h, hk, hp, hc => by
   obtain ⟨hn, ho⟩ := h
   obtain ⟨h2, hkd⟩ := hk
   have hsp : sp (d + 1) < sp d := by simp [sp]; omega
   have hrows := rowsB hσ (x0 := x0) (y0 := y0) z (sp d) (d + 1) (maxH z (d + 1) ks) hsp ks x y ho hn
   have hfl : ((partsB z (sp d) (d + 1) (maxH z (d + 1) ks) ks x y).map fun L => L.map (aff (σ / 4) x0 y0)).flatten = (place z d (.beside ks) x y).map (aff (σ / 4) x0 y0) := by
    rw [place, ← partsB_flat, List.map_flatten]
   have hlen : ((partsB z (sp d) (d + 1) (maxH z (d + 1) ks) ks x y).map fun L => L.map (aff (σ / 4) x0 y0)).length = ks.length := by rw [List.length_map, partsB_len]
   rw [← hfl] at hp
   have hall := cut_all ks f (d + 1) (sp d) (maxH z (d + 1) ks) x y true (by omega) ho hkd
   exact beside_step (by rw [hlen]; exact h2) hrows hp hall hc
 | .above ks, 0, d, x, y, l, r, hf, h, hk, hp, hc => by have := Ok.deep (z := z) (t := .above ks) h; omega
 | .above ks, f + 1, d, x, y, l, r, hf, h, hk, hp, hc => by
   have hdx := (geo z (.above ks) d x y h).dx
   obtain ⟨hn, ho⟩ := h
   obtain ⟨h2, hkd⟩ := hk
   have hdd : d + 1 ≤ 4 := by
    match ks, hn, ho with
    | t :: r, _, ho => exact ho.1.deep
   have hsp : sp (d + 1) < sp d := by simp [sp]; omega
   have hrows := rowsA hσ (x0 := x0) (y0 := y0) z (sp d) (d + 1) (maxW z (d + 1) ks) hsp ks x y ho hn
   have hfl : ((partsA z (sp d) (d + 1) (maxW z (d + 1) ks) ks x y).map fun L => L.map (aff (σ / 4) x0 y0)).flatten = (place z d (.above ks) x y).map (aff (σ / 4) x0 y0) := by
    rw [place, ← partsA_flat, List.map_flatten]
   have hlen : ((partsA z (sp d) (d + 1) (maxW z (d + 1) ks) ks x y).map fun L => L.map (aff (σ / 4) x0 y0)).length = ks.length := by rw [List.length_map, partsA_len]
   have hpx := hp
   rw [← hfl] at hp
   have hall := cut_all ks f (d + 1) (sp d) (maxW z (d + 1) ks) x y false (by omega) ho hkd
   exact above_step (by rw [hlen]; exact h2) hrows hp (hdx.affX (quarter_pos hσ) (x0 := x0) (y0 := y0) (by simp [gx, sp]; omega)) (gap_no hσ (s := sp d) (by simp only [gx]; exact hsp)) hpx hall hc
theorem cut_all : (ks : List Tree) → (f : Nat) → (d s m x y : Int) → (side : Bool) → d + f = 5 → Oks z d ks → Kds ks → (parts : List (List PB)) → (q : Option (List Nd)) →
 PermAll parts ((if side then partsB z s d m ks x y else partsA z s d m ks x y).map fun L => L.map (aff (σ / 4) x0 y0)) → AllR (CutR σ f d) parts q → q = some (flats d ks)
 | [], f, d, s, m, x, y, side, hf, ho, hk, parts, q, hp, ha => by
   have : parts = [] := List.eq_nil_of_length_eq_zero (by rw [hp.length]; cases side <;> simp [partsA, partsB])
   subst this
   exact ha
 | t :: r, f, d, s, m, x, y, side, hf, ho, hk, parts, q, hp, ha => by
   obtain ⟨X, Y, X', Y', e⟩ : ∃ X Y X' Y', ((if side then partsB z s d m (t :: r) x y else partsA z s d m (t :: r) x y).map fun L => L.map (aff (σ / 4) x0 y0)) =
    (place z d t X Y).map (aff (σ / 4) x0 y0) :: ((if side then partsB z s d m r X' Y' else partsA z s d m r X' Y').map fun L => L.map (aff (σ / 4) x0 y0)) := by
    cases side
    ·exact ⟨_, _, _, _, rfl⟩
    ·exact ⟨_, _, _, _, rfl⟩
   rw [e] at hp
   cases hp with
   | @cons p _ ps _ hp1 hp2 =>
     rcases ha with ⟨h1, _⟩ | ⟨u, r2, h1, h2, rfl⟩
     ·have := cut_tree t f d X Y p none hf ho.1 hk.1 hp1 h1
      cases this
     ·have e1 := cut_tree t f d X Y p (some u) hf ho.1 hk.1 hp1 h1
      have e2 := cut_all r f d s m X' Y' side hf ho.2 hk.2 ps r2 hp2 h2
      rw [e2]
      cases e1
      rfl
end
end
end OG
namespace Go.Proofs.OGW
open Go.RowKit Go.Sort
def Bef (S : Nat → Value → World → Prop) (T : Nat → World → Value → Prop) (vs : Nat → Value) (j k : Nat) : Prop := ∃ w, S j (vs j) w ∧ T k w (vs k)
def relWT (P : Program) (w0 : World) (S : Nat → Value → World → Prop) (T : Nat → World → Value → Prop) (Q : Act → World → Prop) : List Oper → Nat → Act → (Nat → World → Prop) → (Nat → Value) → Prop
 | [], i, a, H, V => ∀ w, Gr w0 w → (∀ j, j < i → H j w) → (∀ j k, j < i → k < i → j ≠ k → Bef S T V j k ∨ Bef S T V k j) → Q a w
 | o :: r, i, a, H, V => (∀ w, Gr w0 w → (∀ j, (o.after.any fun e => Region.binds .any e && e.on == j) = true → H j w) → ∀ K : Act → World → Prop, Hid (∀ v w', Gr w w' → S i v w' → T i w v → K (a.put o.dst v) w') → o.wp P a w K noQ) ∧
    ∀ v, relWT P w0 S T Q r (i + 1) (a.put o.dst v) (fun j w => if j = i then S i v w else H j w) (fun j => if j = i then v else V j)
section
variable {P : Program} {w0 : World} {S : Nat → Value → World → Prop} {T : Nat → World → Value → Prop} {Q : Act → World → Prop}
theorem relWT_at (vs : Nat → Value) : ∀ (l : List Oper) (i : Nat) (a : Act) (H : Nat → World → Prop) (V : Nat → Value), relWT P w0 S T Q l i a H V → (∀ j w, j < i → (H j w ↔ S j (vs j) w)) → (∀ j, j < i → V j = vs j) →
 (∀ k o, l[k]? = some o → (∀ e ∈ o.after, Region.binds .any e = true → e.on < i + k) → ∀ w, Gr w0 w → (∀ j, (o.after.any fun e => Region.binds .any e && e.on == j) = true → S j (vs j) w) →
   ∀ K : Act → World → Prop, Hid (∀ v w', Gr w w' → S (i + k) v w' → T (i + k) w v → K ((putsN vs (l.take k) i a).put o.dst v) w') → o.wp P (putsN vs (l.take k) i a) w K noQ) ∧
 ∀ w, Gr w0 w → (∀ j, j < i + l.length → S j (vs j) w) → (∀ j k, j < i + l.length → k < i + l.length → j ≠ k → Bef S T vs j k ∨ Bef S T vs k j) → Q (putsN vs l i a) w
 | [], i, a, H, V, h, hH, hV => ⟨fun k o ho => by simp at ho, fun w hg hs ho => h w hg (fun j hj => (hH j w hj).2 (hs j (by simpa using hj))) fun j k hj hk hne => by
     have := ho j k (by simpa using hj) (by simpa using hk) hne
     unfold Bef at this ⊢
     rw [hV j hj, hV k hk]
     exact this⟩
 | o :: r, i, a, H, V, h, hH, hV => by
   obtain ⟨h1, h2⟩ := h
   have ih := relWT_at vs r (i + 1) (a.put o.dst (vs i)) _ _ (h2 (vs i)) (fun j w hj => by
    by_cases e : j = i
    ·subst e; simp
    ·simp only [if_neg e]; exact hH j w (by omega)) (fun j hj => by
    by_cases e : j = i
    ·subst e; simp
    ·simp only [if_neg e]; exact hV j (by omega))
   refine ⟨fun k o' ho' hlt w hg hs K hK => ?_, fun w hg hs ho => ?_⟩
   ·cases k with
    | zero =>
      exact tZ46
    | succ k =>
      exact tZ71
   ·have := ih.2 w hg (fun j hj => hs j (by simp; omega)) (fun j k hj hk hne => ho j k (by simp; omega) (by simp; omega) hne)
    simpa [putsN] using this
def canonL (m n : Nat) : Array Bool := ((List.range m).map fun i => decide (i < n)).toArray
structure RInvT (L : List Oper) (n : Nat) (l : List Oper) (a : Act) (w : World) (S : Nat → Value → World → Prop) (T : Nat → World → Value → Prop) (listed : Array Bool) (vs : Nat → Value) (b : Act) (w1 : World) (rem : List Nat) : Prop where
 hinv : HeadInv .any L.toArray n listed
 hl : l = L.take n
 gr : Gr w w1
 nd : rem.Nodup
 left : ∀ i, i < l.length → (listed.getD i false = false ↔ i ∈ rem)
 lt : ∀ i ∈ rem, i < l.length
 vals : ∀ i, i < l.length → listed.getD i false = true → S i (vs i) w1
 ord : ∀ i j, i < l.length → j < l.length → i ≠ j → listed.getD i false = true → listed.getD j false = true → Bef S T vs i j ∨ Bef S T vs j i
 defers : b.defers = a.defers
 bsize : b.tmps.size = a.tmps.size
 put : ∀ (i : Nat) (o : Oper) (t : Nat), l[i]? = some o → listed.getD i false = true → o.dst = some t → b.tmps[t]? = some (vs i)
 old : ∀ (t : Nat), (∀ (i : Nat) (o : Oper), l[i]? = some o → o.dst = some t → listed.getD i false = false) → b.tmps[t]? = a.tmps[t]?
theorem rel_anyT {Q' : Exit → Act → World → Prop} {L : List Oper} {n : Nat} {l : List Oper} (hl : l = L.take n) (hn : n < L.length) (hs : Region.sinkB .any L.toArray n = true) (hc : Region.chainB .any L.toArray n = true) (hseq : Region.seqB .any L.toArray (L.length - n) n (canonL L.length n) = true) {a : Act} {w : World} (hB : relB .any l = true) (hsz : ∀ (i : Nat) (o : Oper) (d : Nat), l[i]? = some o → o.dst = some d → d < a.tmps.size)
 (hS : ∀ i v w w', Gr w w' → S i v w → S i v w')
 (hO : ∀ (vs : Nat → Value) (k : Nat) (o : Oper), l[k]? = some o → ∀ w1, Gr w w1 → (∀ j, (o.after.any fun e => Region.binds .any e && e.on == j) = true → S j (vs j) w1) →
   ∀ K : Act → World → Prop, Hid (∀ v w', Gr w1 w' → S k v w' → T k w1 v → K ((putsN vs (l.take k) 0 a).put o.dst v) w') → o.wp P (putsN vs (l.take k) 0 a) w1 K noQ)
 (hF : ∀ (vs : Nat → Value) w1, Gr w w1 → (∀ j, j < l.length → S j (vs j) w1) → (∀ j k, j < l.length → k < l.length → j ≠ k → Bef S T vs j k ∨ Bef S T vs k j) → wpList P L.toArray Q' (L.drop n) (putsN vs l 0 a) w1) :
 ∀ (fuel : Nat) (listed : Array Bool) (vs : Nat → Value) (b : Act) (w1 : World) (rem : List Nat), RInvT L n l a w S T listed vs b w1 rem → rem.length = fuel → wpAny P .any L.toArray Q' (fuel + (L.length - n)) listed b w1 := by
 have hll : l.length = n := by rw [hl, List.length_take]; omega
 obtain ⟨hnd, hsel, hop⟩ := relB_spec hB
 have done : ∀ (listed : Array Bool) (vs : Nat → Value) (b : Act) (w1 : World) (rem : List Nat), RInvT L n l a w S T listed vs b w1 rem → (∀ i, i < l.length → listed.getD i false = true) → wpList P L.toArray Q' (L.drop n) b w1 := by
  intro listed vs b w1 rem I hall
  have e : b = putsN vs l 0 a := by
   exact tZ16
  rw [e]
  exact hF vs w1 I.gr (fun j hj => I.vals j hj (hall j hj)) fun j k hj hk hne => I.ord j k hj hk hne (hall j hj) (hall k hk)
 intro fuel
 induction fuel with
 | zero =>
   intro listed vs b w1 rem I hlen
   have hr : rem = [] := List.eq_nil_of_length_eq_zero (by omega)
   have hall : ∀ i, i < l.length → listed.getD i false = true := fun i hi => by
    cases h : listed.getD i false with
    | true => rfl
    | false => have := (I.left i hi).1 h; rw [hr] at this; cases this
   have hcan : listed = canonL L.length n := by
    apply Array.ext_getElem?
    intro i
    have hsz := I.hinv.size
    simp only [List.size_toArray] at hsz
    by_cases hi : i < L.length
    ·rw [Array.getElem?_eq_getElem (by omega)]
     unfold canonL
     simp only [List.getElem?_toArray, List.getElem?_map, List.getElem?_range hi, Option.map_some]
     congr 1
     by_cases hin : i < n
     ·have := hall i (by omega)
      simp only [Array.getD, show i < listed.size by omega, dif_pos] at this
      simp only [hin, decide_true]
      exact this
     ·have := I.hinv.tail i (by omega) (by simpa using hi)
      simp only [Array.getD, show i < listed.size by omega, dif_pos] at this
      simp only [hin, decide_false]
      exact this
    ·rw [Array.getElem?_eq_none (by omega)]
     unfold canonL
     simp [hi]
   have := wpAny_of_seq (P := P) (md := .any) (ops := L.toArray) (Q' := Q') (L.drop n) n listed b w1 (fun j => by simp [List.getElem?_drop]) (by rw [List.length_drop, hcan]; exact hseq) (done _ _ _ _ _ I hall)
   rw [List.length_drop] at this
   rw [Nat.zero_add]
   exact this
 | succ fuel ih =>
   intro listed vs b w1 rem I hlen
   rw [show fuel + 1 + (L.length - n) = (fuel + (L.length - n)) + 1 by omega]
   obtain ⟨i0, hi0⟩ : ∃ i0, i0 ∈ rem := List.exists_mem_of_ne_nil rem (by intro e; rw [e] at hlen; simp at hlen)
   have hi0l := I.lt i0 hi0
   have hun0 := (I.left i0 hi0l).2 hi0
   have hszl : listed.size = L.length := by have := I.hinv.size; simpa using this
   refine ⟨fun hr => ?_, fun i hi => ?_⟩
   ·exfalso
    have key : ∀ i, i < l.length → listed.getD i false = true := by
     intro i
     induction i using Nat.strongRecOn with
     | _ i ihi =>
       intro hlt
       cases hc2 : listed.getD i false with
       | true => rfl
       | false =>
         exfalso
         obtain ⟨o, ho⟩ : ∃ o, l[i]? = some o := ⟨_, gE hlt⟩
         have hoL : L[i]? = some o := by rw [hl, List.getElem?_take] at ho; split at ho; exact ho; cases ho
         have : i ∈ Region.ready .any L.toArray listed := by
          refine mem_ready.2 ⟨getD_in (by omega) hc2, o, by simpa using hoL, fun e he hb => ?_⟩
          have hlt2 := (hop i o ho).2.2.1 e he hb
          exact ihi e.on hlt2 (by omega)
         rw [hr] at this
         cases this
    rw [key i0 hi0l] at hun0
    cases hun0
   ·have hin : i < n := by
     rcases Nat.lt_or_ge i n with h | h
     ·exact h
     ·exact absurd hi (tail_waits hs hc (by simpa using hn) I.hinv _ i0 rfl (by omega) (getD_in (by omega) hun0) i h)
    obtain ⟨hun, o, ho, hdep⟩ := mem_ready.1 hi
    have hol : l[i]? = some o := by rw [hl, List.getElem?_take, if_pos hin]; simpa using ho
    have hil : i < l.length := (gO hol).1
    obtain ⟨hg, ⟨d, hd⟩, hdlt, hrd⟩ := hop i o hol
    have hirem : i ∈ rem := (I.left i hil).1 (getD_both hun)
    have heval : execOp b.eval o = execOp (putsN vs (l.take i) 0 a).eval o := by
     exact tZ12
    unfold wpOp
    simp only [ho]
    rw [if_pos (by unfold Region.wanted; rw [hg])]
    left
    have hj0 : ∀ j, (o.after.any fun e => Region.binds .any e && e.on == j) = true → S j (vs j) w1 := fun j hj => by
     exact tZ69
    refine wp_move (R := fun v w' => (Gr w1 w' ∧ S i v w') ∧ T i w1 v) heval hd (by rw [(putsN_size vs (l.take i) 0 a).1]; exact hsz i o d hol hd)
     (fun K hK => hO vs i o hol w1 I.gr hj0 K (fun v w' h1 h2 h3 => hK v w' ⟨⟨h1, h2⟩, h3⟩)) (fun v w' hRT => ?_)
    obtain ⟨hR, hT⟩ := hRT
    refine ih (listed.setIfInBounds i true) (fun j => if j = i then v else vs j) (b.put o.dst v) w' (rem.erase i) ⟨I.hinv.set hi hin, hl, I.gr.trans hR.1, I.nd.erase _, ?_, ?_, ?_, ?_, ?_, ?_, ?_, ?_⟩ ?_
    ·intro j hj
     by_cases hij : i = j
     ·subst hij
      rw [List.Nodup.mem_erase_iff I.nd]
      rw [getD_self (by omega)]; simp
     ·rw [getD_set_ne false hij, List.Nodup.mem_erase_iff I.nd, I.left j hj]
      exact ⟨fun h => ⟨Ne.symm hij, h⟩, fun h => h.2⟩
    ·exact fun j hj => I.lt j (List.mem_of_mem_erase hj)
    ·intro j hj hlj
     by_cases hij : j = i
     ·subst hij; simp only [if_true]; exact hR.2
     ·rw [getD_set_ne false (Ne.symm hij)] at hlj
      simp only [if_neg hij]
      exact hS j _ _ _ hR.1 (I.vals j hj hlj)
    ·intro j k hj hk hne hlj hlk
     have low : ∀ m, m ≠ i → (listed.setIfInBounds i true).getD m false = true → listed.getD m false = true := fun m hm h => by rwa [getD_set_ne false (Ne.symm hm)] at h
     by_cases hji : j = i
     ·subst hji
      have hkj : k ≠ j := Ne.symm hne
      refine .inr ⟨w1, ?_, ?_⟩
      ·simp only [if_neg hkj]; exact I.vals k hk (low k hkj hlk)
      ·simp only [if_true]; exact hT
     ·by_cases hki : k = i
      ·subst hki
       refine .inl ⟨w1, ?_, ?_⟩
       ·simp only [if_neg hji]; exact I.vals j hj (low j hji hlj)
       ·simp only [if_true]; exact hT
      ·have := I.ord j k hj hk hne (low j hji hlj) (low k hki hlk)
       unfold Bef at this ⊢
       simp only [if_neg hji, if_neg hki]
       exact this
    ·rw [hd]; exact I.defers
    ·rw [hd]; simp [Act.put, I.bsize]
    ·intro j q t hq hlj hqt
     by_cases hij : j = i
     ·subst hij
      rw [hol] at hq
      exact tZ95
     ·rw [getD_set_ne false (Ne.symm hij)] at hlj
      simp only [if_neg hij]
      exact tZ30
    ·intro t ht
     have hne : d ≠ t := by
      intro e
      have := ht i o hol (by rw [hd, e])
      rw [getD_self (by omega)] at this
      cases this
     exact tZ55
    ·rw [List.length_erase_of_mem hirem]; omega
theorem region_relT {id : Nat} {Q' : Exit → Act → World → Prop} {L : List Oper} {a : Act} {w : World} (n : Nat) (S : Nat → Value → World → Prop) (T : Nat → World → Value → Prop) (hm : P.follows .mixedOrders = true)
 (hB : (relB .any (L.take n) && Region.sinkB .any L.toArray n && Region.chainB .any L.toArray n && decide (n < L.length) && Region.seqB .any L.toArray (L.length - n) n (canonL L.length n)) = true)
 (hsz : ((L.take n).all fun o => match o.dst with | some d => decide (d < a.tmps.size) | none => false) = true) (hS : ∀ i v w w', Gr w w' → S i v w → S i v w')
 (h : relWT P w S T (fun b w1 => wpList P L.toArray Q' (L.drop n) b w1) (L.take n) 0 a (fun _ _ => True) (fun _ => undef)) : (Code.region id L.toArray true).wp P Q' a w := by
 simp only [Bool.and_eq_true, decide_eq_true_eq] at hB
 obtain ⟨⟨⟨⟨hB, hs⟩, hc⟩, hn⟩, hseq⟩ := hB
 have hsz' : ∀ (i : Nat) (o : Oper) (d : Nat), (L.take n)[i]? = some o → o.dst = some d → d < a.tmps.size := fun i o d ho hd => by
  have := List.all_eq_true.1 hsz o (List.mem_of_getElem? ho)
  rw [hd] at this
  simpa using this
 have hat := fun vs => relWT_at (S := S) (T := T) (Q := fun b w1 => wpList P L.toArray Q' (L.drop n) b w1) vs (L.take n) 0 a (fun _ _ => True) (fun _ => undef) h (fun j w hj => by omega) (fun j hj => by omega)
 obtain ⟨hnd, hsel, hop⟩ := relB_spec hB
 have hll : (L.take n).length = n := by rw [List.length_take]; omega
 have R := rel_anyT (S := S) (T := T) (w := w) (a := a) (Q' := Q') (P := P) rfl hn hs hc hseq hB hsz' hS (fun vs k o ho w1 hg hss K hK => ?_) (fun vs w1 hg hss hoo => (hat vs).2 w1 hg (fun j hj => hss j (by simpa using hj)) (fun j k hj hk hne => hoo j k (by simpa using hj) (by simpa using hk) hne)) n (Array.replicate L.toArray.size false) (fun _ => undef) a { w with drawn := w.drawn + 1 } (List.range n) ?_ (by simp)
 ·refine wp_region_any hm ?_
  rw [show n + (L.length - n) = L.toArray.size by simp; omega] at R
  exact R
 ·refine (hat vs).1 k o ho (fun e he hb => by have := (hop k o ho).2.2.1 e he hb; omega) w1 hg hss K ?_
  rw [Nat.zero_add]
  exact hK
 ·refine ⟨⟨by simp, fun j oj _ hl => (by rw [getD_replicate_false] at hl; cases hl), fun t _ ht => getD_in (by simpa using ht) (getD_replicate_false _ _)⟩, rfl, (Gr.refl w).drewN 1, List.nodup_range, fun i hi => ?_, fun i hi => by rw [hll]; exact List.mem_range.1 hi, fun i hi hl => ?_, fun i j _ _ _ hl _ => ?_, rfl, rfl, fun i o t ho hl _ => ?_, fun t _ => rfl⟩
  ·rw [hll] at hi; exact ⟨fun _ => List.mem_range.2 hi, fun _ => getD_replicate_false _ _⟩
  ·rw [getD_replicate_false] at hl; cases hl
  ·rw [getD_replicate_false] at hl; cases hl
  ·rw [getD_replicate_false] at hl; cases hl
end
end Go.Proofs.OGW
