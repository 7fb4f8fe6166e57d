import Derived.Test.YtmejcmollpbcfaaGreatP42
import Derived.Test.YtmejcmollpbcfaaGreatP47
set_option linter.all false
namespace Go.Proofs.OGW
open Go.RowKit Go.Sort OG
def LeafG (l : List Sg) (f : Lf) : Prop := nodeE l 0 ⟨f, 0⟩ = 0 ∧ (f.kind = 1 ∨ f.kind = 6)
theorem nodeE_iff (l : List Sg) (t : Int) (f : Lf) (d : Int) : nodeE l t ⟨f, d⟩ = 0 ↔ OG.Loc (LeafG l) d f ∧ d ≤ t := by
 unfold OG.Loc LeafG nodeE
 simp only
 by_cases h1 : f.kind < 1 ∨ 7 < f.kind
 ·rw [if_pos h1]
  constructor
  ·intro h; cases h
  ·rintro ⟨⟨_, _, a, b, _⟩, _⟩; omega
 rw [if_neg h1, if_neg h1]
 by_cases h2 : d < 0 ∨ 4 < d ∨ t < d
 ·rw [if_pos h2]
  constructor
  ·intro h; cases h
  ·rintro ⟨⟨a, b, _⟩, c⟩; omega
 rw [if_neg h2, if_neg (show ¬ ((0 : Int) < 0 ∨ (4 : Int) < 0 ∨ (0 : Int) < 0) by omega)]
 by_cases k1 : f.kind = 1
 ·rw [if_pos k1]
  constructor
  ·intro h
   exact ⟨⟨by omega, by omega, by omega, by omega, fun _ => ⟨h, .inl k1⟩, fun a => absurd k1 a⟩, by omega⟩
  ·rintro ⟨⟨_, _, _, _, h, _⟩, _⟩
   exact (h (.inl k1)).1
 rw [if_neg k1]
 by_cases k6 : f.kind = 6
 ·rw [if_pos k6]
  constructor
  ·intro h
   exact ⟨⟨by omega, by omega, by omega, by omega, fun _ => ⟨h, .inr k6⟩, fun _ a => absurd k6 a⟩, by omega⟩
  ·rintro ⟨⟨_, _, _, _, h, _⟩, _⟩
   exact (h (.inr k6)).1
 rw [if_neg k6]
 constructor
 ·intro h
  split at h
  ·rename_i hb
   refine ⟨⟨by omega, by omega, by omega, by omega, fun a => by omega, fun _ _ => ?_⟩, by omega⟩
   obtain ⟨k, s, tu, m, st, mn, mx⟩ := f
   simp only at hb
   obtain ⟨b1, b2, b3, b4, b5, b6⟩ := hb
   subst b1 b2 b3 b4 b5 b6
   rfl
  ·cases h
 ·rintro ⟨⟨_, _, _, _, _, h⟩, _⟩
  have h := h k1 k6
  rw [if_pos]
  rw [h]
  simp [bare]
theorem leaf_sizes {most : Int} {l : List Sg} (h0 : listE most l = 0) {f : Lf} (h : LeafG l f) : LfB most l f ∧ 0 < (zOf most l).w f ∧ (zOf most l).w f ≤ 108 ∧ (4 : Int) ∣ (zOf most l).w f ∧ 0 < (zOf most l).h f ∧ (zOf most l).h f ≤ 48 ∧ (4 : Int) ∣ (zOf most l).h f := by
 obtain ⟨h1, hk⟩ := h
 have hs := sizeP_bd most l f.sign f.turn
 have ew : (zOf most l).w f = if f.kind = 6 then 12 * f.mx else 4 * (sizeP most l f.sign f.turn).1 := rfl
 have eh : (zOf most l).h f = if f.kind = 6 then 24 else 4 * (sizeP most l f.sign f.turn).2.1 := rfl
 unfold LfB
 unfold nodeE at h1
 simp only at h1
 rw [if_neg (by omega), if_neg (by omega)] at h1
 rcases hk with k1 | k6
 ·rw [if_pos k1] at h1
  have ok : (sizeP most l f.sign f.turn).2.2 = 0 ∧ f.mx = 0 := by
   split at h1
   ·cases h1
   rename_i hn
   split at h1
   ·cases h1
   rename_i s hs
   split at h1
   ·cases h1
   rename_i ht
   split at h1
   ·cases h1
   rename_i hm
   refine ⟨?_, by omega⟩
   unfold sizeP
   rw [if_neg (by simp [h0]), if_neg hn, hs]
   simp only
   rw [if_neg (by omega)]
   split <;> rfl
  have := hs.2.2.2.2 ok.1
  rw [if_neg (by omega)] at ew eh
  rw [ew, eh]
  omega
 ·rw [if_neg (by omega), if_pos k6] at h1
  split at h1
  ·cases h1
  rename_i hm
  rw [if_pos k6] at ew eh
  rw [ew, eh]
  omega
theorem szB_of {most : Int} {l : List Sg} (h0 : listE most l = 0) : SzB (zOf most l) (LeafG l) :=
 ⟨fun f h => (leaf_sizes h0 h).2.1, fun f h => (leaf_sizes h0 h).2.2.1, fun f h => (leaf_sizes h0 h).2.2.2.1, fun f h => (leaf_sizes h0 h).2.2.2.2.1, fun f h => (leaf_sizes h0 h).2.2.2.2.2.1, fun f h => (leaf_sizes h0 h).2.2.2.2.2.2⟩
theorem stands_get {ns : List Nd} {i : Nat} {d : Int} {f : Lf} {ks : List Rose} {rest : List Nd} {q : Par} (h : Stands ns i d f ks rest q) : ns[i]? = some ⟨f, d⟩ ∧ ns.drop (i + 1) = flatRs (d + 1) ks ++ rest := get_of_drop (r := flatRs (d + 1) ks ++ rest) h.dr
theorem endN_rose {ns : List Nd} {i : Nat} {d : Int} {r : Rose} {rest : List Nd} (h : ns.drop i = flatR d r ++ rest) (hs : Stop d rest) : endN ns i = i + (flatR d r).length := by
 rw [flatR_eq] at h ⊢
 obtain ⟨h1, h2⟩ := get_of_drop (r := flatRs (d + 1) r.ks ++ rest) h
 rw [endN_at h1, h2, skipN_all d _ rest (fun n hn => by have := flatRs_ge (d + 1) r.ks n hn; omega) hs, List.length_cons]
 omega
theorem kinds_at {ns : List Nd} {kAt' : List Nd → Nat → Int} (hk : ∀ {x : Nat} {n : Nd}, ns[x]? = some n → kAt' ns x = n.lf.kind) (d : Int) : ∀ (ks : List Rose) (i : Nat) (rest : List Nd), ns.drop i = flatRs d ks ++ rest → (kpos d i ks).map (kAt' ns) = ks.map fun k => k.lf.kind
 | [], _, _, _ => rfl
 | r :: rs, i, rest, h => by
   have h' : ns.drop i = flatR d r ++ (flatRs d rs ++ rest) := by rw [h, flatRs, List.append_assoc]
   have h1 := h'
   rw [flatR_eq] at h1
   rw [kpos, List.map_cons, hk (get_of_drop (r := flatRs (d + 1) r.ks ++ (flatRs d rs ++ rest)) h1).1, kinds_at hk d rs _ rest (drop_add h'), List.map_cons]
theorem chain_roses {ns : List Nd} {e : Nat} (d : Int) : ∀ (ks : List Rose) (i : Nat) (rest : List Nd), ns.drop i = flatRs d ks ++ rest → Stop (d - 1) rest → e = i + (flatRs d ks).length → IChain ns e i (kpos d i ks)
 | [], i, rest, _, _, he => by show i = e; simpa [flatRs] using he.symm
 | r :: rs, i, rest, h, hs, he => by
   have h' : ns.drop i = flatR d r ++ (flatRs d rs ++ rest) := by rw [h, flatRs, List.append_assoc]
   have hl : 0 < (flatR d r).length := by rw [flatR_eq]; simp
   rw [flatRs, List.length_append] at he
   refine ⟨rfl, by omega, ?_⟩
   rw [endN_rose h' (stop_flatRs d rs rest (hs.mono (by omega)))]
   exact chain_roses d rs _ rest (drop_add h') hs (by omega)
theorem kidsN_rose {ns : List Nd} {i : Nat} {d : Int} {f : Lf} {ks : List Rose} {rest : List Nd} {q : Par} (h : Stands ns i d f ks rest q) : kidsN ns i = kpos (d + 1) (i + 1) ks := by
 obtain ⟨h1, h2⟩ := stands_get h
 refine (kidsN_ok (gO h1).1).one (chain_roses (d + 1) ks (i + 1) rest h2 (by rw [Int.add_sub_cancel]; exact h.st) ?_)
 rw [endN_rose h.dr h.st]
 show i + ((flatRs (d + 1) ks).length + 1) = _
 omega
theorem kidsR_rose {ns : List Nd} {i : Nat} {d : Int} {f : Lf} {ks : List Rose} {rest : List Nd} {q : Par} (h : Stands ns i d f ks rest q) : kidsR ns i ⟨f, d⟩ = kpos (d + 1) (i + 1) ks := by
 obtain ⟨h1, h2⟩ := stands_get h
 show kgo (d + 1) (i + 1) (ns.drop (i + 1)) = _
 rw [h2, kgo_roses (d + 1) ks (i + 1) rest (by rw [Int.add_sub_cancel]; exact h.st)]
theorem famP_rose {ns : List Nd} {i : Nat} {d : Int} {f : Lf} {ks : List Rose} {rest : List Nd} {q : Par} (h : Stands ns i d f ks rest q) : famAt ns i = famP f.kind d (ks.map fun k => k.lf.kind) (if 0 < d then q.kind else 0) := by
 obtain ⟨h1, h2⟩ := stands_get h
 unfold famAt parK
 rw [h1]
 simp only
 rw [kidsN_rose h, kinds_at (kAt' := kAt) (fun h => kAt_of h) (d + 1) ks (i + 1) rest h2]
 by_cases hd : 0 < d
 ·rw [if_pos hd, if_pos hd, h.lk hd]
 ·rw [if_neg hd, if_neg hd]
theorem kindAt_of {ns : List Nd} {x : Nat} {n : Nd} (h : ns[x]? = some n) : kindAt ns x = n.lf.kind := by unfold kindAt; rw [h]
theorem famR_top {kind d : Int} {kk : List Int} {pk pk' : Int} {pm pm' : Nat} (hd : ¬ 0 < d) : famR kind d kk pk pm = famR kind d kk pk' pm' := by
 unfold famR
 split
 ·rfl
 ·rw [if_neg (by rintro ⟨_, h, _⟩; exact hd h), if_neg (by rintro ⟨_, h, _⟩; exact hd h)]
theorem famR_rose {ns : List Nd} {i : Nat} {d : Int} {f : Lf} {ks : List Rose} {rest : List Nd} {q : Par} (h : Stands ns i d f ks rest q) : famAt2 ns i = famR f.kind d (ks.map fun k => k.lf.kind) q.kind q.many := by
 obtain ⟨h1, h2⟩ := stands_get h
 unfold famAt2
 rw [h1]
 simp only
 rw [kidsR_rose h, kinds_at (kAt' := kindAt) (fun h => kindAt_of h) (d + 1) ks (i + 1) rest h2]
 by_cases hd : 0 < d
 ·obtain ⟨p1, n, p2, p3, p4, p5⟩ := h.pm hd
  have e1 : pkAt ns i ⟨f, d⟩ = q.kind := by
   unfold pkAt
   simp only
   rw [h.pa, kindAt_of p2, p4]
  have e2 : pmAt ns i ⟨f, d⟩ = q.many := by
   unfold pmAt
   simp only
   rw [h.pa, p2]
   simp only
   rw [← p5]
   unfold kidsR
   rw [p3, Int.sub_add_cancel]
  rw [e1, e2]
 ·exact famR_top hd
theorem own_steps {l : List Sg} : ∀ {ns : List Nd}, (∀ j, j < ns.length → ownE l ns j = 0) → OG.Steps ns ∧ ∀ n, ns.head? = some n → n.depth = 0 := by
 intro ns h
 have hst : ∀ (k : Nat) (m : List Nd), ns.drop k = m → OG.Steps m := by
  intro k m
  induction m generalizing k with
  | nil => intro _; trivial
  | cons a r ih =>
    intro e
    obtain ⟨h1, h2⟩ := get_of_drop e
    cases r with
    | nil => trivial
    | cons b r =>
      refine ⟨?_, ih (k + 1) h2⟩
      obtain ⟨h3, _⟩ := get_of_drop h2
      have hb := h (k + 1) (gO h3).1
      unfold ownE at hb
      rw [h3] at hb
      have := (nodeE_top hb).1
      simp only [topN, h1] at this
      split at this <;> omega
 refine ⟨hst 0 ns rfl, fun n hn => ?_⟩
 have h0 : ns[0]? = some n := by rw [← hn]; exact List.head?_eq_getElem?.symm
 have hb := h 0 (gO h0).1
 unfold ownE at hb
 rw [h0] at hb
 have h1 := (nodeE_top hb).1
 have h2 := (nodeE_depth hb).1
 simp only [topN] at h1
 omega
theorem own_nn {l : List Sg} {ns : List Nd} (h : ∀ j, j < ns.length → ownE l ns j = 0) : ∀ x ∈ ns, 0 ≤ x.depth := by
 intro x hx
 obtain ⟨j, hj⟩ := List.getElem?_of_mem hx
 have hb := h j (gO hj).1
 unfold ownE at hb
 rw [hj] at hb
 exact (nodeE_depth hb).1
theorem own_at {l : List Sg} {ns : List Nd} {i : Nat} {n : Nd} (h : ownE l ns i = 0) (hn : ns[i]? = some n) : nodeE l 4 n = 0 := by
 unfold ownE at h
 rw [hn] at h
 obtain ⟨f, d⟩ := n
 rw [nodeE_iff] at h ⊢
 exact ⟨h.1, h.1.2.1⟩
theorem top_stop {ns : List Nd} : Stop (0 - 1) ([] : List Nd) := fun n hn => by simp at hn
theorem grps_R {most : Int} {l : List Sg} {ns : List Nd} (h : checkR most l ns = 0) : listE most l = 0 ∧ ns.length ≤ 200 ∧ ∃ gs, flatG gs = ns ∧ ∀ g ∈ gs, GrpOk (LeafG l) g := by
 unfold checkR at h
 by_cases h0 : listE most l = 0
 ·rw [if_neg (by simp [h0])] at h
  split at h
  ·cases h
  rename_i hlen
  split at h
  ·rename_i hf; exact absurd h hf
  rename_i hf
  split at h
  ·rename_i hfam
   have hown : ∀ j, j < ns.length → ownE l ns j = 0 := fun j hj => (firstE_zero ns.length 0).1 (by omega) j (by omega) (by omega)
   rw [List.all_eq_true] at hfam
   refine ⟨h0, by omega, ?_⟩
   obtain ⟨rs, hrs⟩ := exists_roses ns.length ns 0 (Nat.le_refl _) (own_nn hown) (own_steps hown).2 (own_steps hown).1
   have key := (all_roses ns (fun i => (∀ n, ns[i]? = some n → nodeE l 4 n = 0) ∧ famAt2 ns i = true) (CR (LeafG l)) (fun i d f ks rest q hd hst => by
    rw [famR_rose hst]
    have hg := (stands_get hst).1
    unfold CR
    constructor
    ·rintro ⟨a, b⟩
     have := (nodeE_iff l 4 f d).1 (a _ hg)
     refine ⟨this.1, fun hk => ?_, b⟩
     unfold famR at b
     split at b
     ·cases b
     ·rename_i hc
      have e : highR f.kind = 0 := by unfold highR; rw [if_neg (by omega), if_pos hk]
      rw [e] at hc
      exact List.eq_nil_of_length_eq_zero (by omega)
    ·rintro ⟨a, _, b⟩
     refine ⟨fun n hn => ?_, b⟩
     rw [hg] at hn
     cases hn
     exact (nodeE_iff l 4 f d).2 ⟨a, a.2.1⟩) rs 0 0 [] ⟨-1, 0, 0⟩ (by omega) (by rw [List.drop_zero, List.append_nil]; exact hrs) (fun n hn => by simp at hn) (fun h => absurd h (by omega)) rfl (fun h => absurd h (by omega))).1
    (fun j _ hj => by
      rw [← hrs] at hj
      exact ⟨fun n hn => own_at (hown j (by omega)) hn, hfam j (List.mem_range.2 (by omega))⟩)
   obtain ⟨gs, g1, g2⟩ := grps_of (asksR (LeafG l)) rs 0 ⟨-1, 0, 0⟩ key
   exact ⟨gs, by rw [g1, ← hrs], g2⟩
  ·cases h
 ·rw [if_pos h0] at h
  exact absurd h h0
def Tops : List Nd → Prop
 | a :: b :: r => b.depth ≤ (if leafB a then a.depth else a.depth + 1) ∧ Tops (b :: r)
 | _ => True
theorem Tops.cons {a : Nd} {l : List Nd} (h : ∀ b, l.head? = some b → b.depth ≤ (if leafB a then a.depth else a.depth + 1)) (ht : Tops l) : Tops (a :: l) := by
 cases l with
 | nil => trivial
 | cons b r => exact ⟨h b rfl, ht⟩
mutual
theorem tops_rose {G : Lf → Prop} : ∀ (r : Rose) (i : Nat) (q : Par) (d : Int) (X : List Nd), RAll (CV G) i q d r → Stop d X → Tops X → Tops (flatR d r ++ X)
 | .mk f ks, i, q, d, X, h, hs, ht => by
   rw [flatR, List.cons_append]
   refine Tops.cons (fun b hb => ?_) (tops_roses ks (i + 1) _ (d + 1) X h.2 (by rw [Int.add_sub_cancel]; exact hs) ht)
   cases ks with
   | nil =>
     have := hs b (by simpa [flatRs] using hb)
     simp only
     split <;> omega
   | cons k r =>
     simp only [flatRs, flatR_eq, List.cons_append, List.head?_cons, Option.some.injEq] at hb
     rw [← hb]
     have hk : leafB ⟨f, d⟩ = false := by
      unfold leafB
      simp only [Bool.or_eq_false_iff, decide_eq_false_iff_not]
      have hl := h.1.1.2.1
      constructor
      ·intro e; have := hl (.inl e); simp at this
      ·intro e; have := hl (.inr e); simp at this
     rw [hk]
     simp
theorem tops_roses {G : Lf → Prop} : ∀ (ks : List Rose) (i : Nat) (q : Par) (d : Int) (X : List Nd), RsAll (CV G) i q d ks → Stop (d - 1) X → Tops X → Tops (flatRs d ks ++ X)
 | [], i, q, d, X, _, _, ht => ht
 | r :: rs, i, q, d, X, h, hs, ht => by
   rw [flatRs, List.append_assoc]
   exact tops_rose r i q d _ h.1 (stop_flatRs d rs X (hs.mono (by omega))) (tops_roses rs _ q d X h.2 hs ht)
end
theorem tops_top : ∀ (ns : List Nd), Tops ns → (∀ n, ns.head? = some n → n.depth ≤ 0) → ∀ i n, ns[i]? = some n → n.depth ≤ topN ns i := by
 intro ns ht hh i n hn
 cases i with
 | zero => exact hh n (by rw [List.head?_eq_getElem?]; exact hn)
 | succ i =>
   obtain ⟨p, hp⟩ : ∃ p, ns[i]? = some p := ⟨_, gE (by have := (gO hn).1; omega)⟩
   have key : ∀ (m : List Nd) (i : Nat), Tops m → m[i]? = some p → m[i + 1]? = some n → n.depth ≤ (if leafB p then p.depth else p.depth + 1) := by
    intro m
    induction m with
    | nil => intro i _ h; simp at h
    | cons a r ih =>
      intro i ht h1 h2
      cases r with
      | nil => simp at h2
      | cons b r =>
        cases i with
        | zero =>
          simp only [List.getElem?_cons_zero, Option.some.injEq] at h1
          simp only [List.getElem?_cons_succ, List.getElem?_cons_zero, Option.some.injEq] at h2
          rw [← h1, ← h2]; exact ht.1
        | succ i => exact ih i ht.2 (by simpa using h1) (by simpa using h2)
   have := key ns i ht hp hn
   simp only [topN, hp]
   exact this
theorem groups_pass {l : List Sg} {gs : List Grp} (hg : ∀ g ∈ gs, GrpOk (LeafG l) g) : (∀ j, j < (flatG gs).length → ownE l (flatG gs) j = 0) ∧ (∀ j, j < (flatG gs).length → famAt (flatG gs) j = true) := by
 have hcv := cv_grps gs 0 ⟨-1, 0, 0⟩ hg
 have hcp := RsAll.mono (fun q d f kk h => CV.p h) _ _ _ _ hcv
 have e := flats_roseG gs
 obtain ⟨ns, hns⟩ : ∃ ns, ns = flatG gs := ⟨_, rfl⟩
 rw [← hns] at e ⊢
 have key := (all_roses ns (fun i => (∀ n, ns[i]? = some n → nodeE l 4 n = 0) ∧ famAt ns i = true ∧ (∀ n, ns[i]? = some n → (n.lf.kind = 1 ∨ n.lf.kind = 6) → kidsN ns i = [])) (CP (LeafG l)) (fun i d f ks rest q hd hst => by
  rw [famP_rose hst]
  have hgt := (stands_get hst).1
  have hkk := kidsN_rose hst
  unfold CP
  constructor
  ·rintro ⟨a, b, c⟩
   have := (nodeE_iff l 4 f d).1 (a _ hgt)
   refine ⟨this.1, fun hk => ?_, b⟩
   have := c _ hgt hk
   rw [hkk] at this
   have := congrArg List.length this
   rw [kpos_len] at this
   rw [List.eq_nil_of_length_eq_zero (l := ks) (by simpa using this)]
   rfl
  ·rintro ⟨a, c, b⟩
   refine ⟨fun n hn => ?_, b, fun n hn hk => ?_⟩
   ·rw [hgt] at hn
    cases hn
    exact (nodeE_iff l 4 f d).2 ⟨a, a.2.1⟩
   ·rw [hgt] at hn
    cases hn
    rw [hkk, List.map_eq_nil_iff.1 (c hk)]
    rfl) (rosesG gs) 0 0 [] ⟨-1, 0, 0⟩ (by omega) (by rw [List.drop_zero, List.append_nil]; exact e.symm) (fun n hn => by simp at hn) (fun h => absurd h (by omega)) rfl (fun h => absurd h (by omega))).2 hcp
 rw [e] at key
 have ht : Tops ns := by
  have := tops_roses (rosesG gs) 0 ⟨-1, 0, 0⟩ 0 [] hcv (fun n hn => by simp at hn) trivial
  rw [List.append_nil, e] at this
  exact this
 have hh : ∀ n, ns.head? = some n → n.depth ≤ 0 := by
  intro n hn
  rw [← e] at hn
  cases hr : rosesG gs with
  | nil => rw [hr] at hn; simp [flatRs] at hn
  | cons r rs =>
    rw [hr] at hn
    simp only [flatRs, flatR_eq, List.cons_append, List.head?_cons, Option.some.injEq] at hn
    rw [← hn]
    exact Int.le_refl _
 refine ⟨fun j hj => ?_, fun j hj => (key j (by omega) (by omega)).2.1⟩
 obtain ⟨n, hn⟩ : ∃ n, ns[j]? = some n := ⟨_, gE hj⟩
 have h4 := (key j (by omega) (by omega)).1 n hn
 have htop := tops_top ns ht hh j n hn
 unfold ownE
 rw [hn]
 obtain ⟨f, d⟩ := n
 rw [nodeE_iff] at h4
 exact (nodeE_iff l _ f d).2 ⟨h4.1, htop⟩
theorem check_grps {most : Int} {l : List Sg} (h0 : listE most l = 0) {gs : List Grp} (hl : (flatG gs).length ≤ 200) (hg : ∀ g ∈ gs, GrpOk (LeafG l) g) : checkP most l (flatG gs) = 0 := by
 obtain ⟨h1, h2⟩ := groups_pass hg
 unfold checkP
 rw [if_neg (by simp [h0]), if_neg (by omega), if_neg, if_pos]
 ·rw [List.all_eq_true]
  intro j hj
  exact h2 j (List.mem_range.1 hj)
 ·have := (firstE_zero (f := ownE l (flatG gs)) (flatG gs).length 0).2 (fun j _ hj => h1 j (by omega))
  omega
theorem plain_ok {l : List Sg} {gs : List Grp} (hg : ∀ g ∈ gs, GrpOk (LeafG l) g) : (∀ g ∈ gs.map Grp.plain, isPlain g ∧ GrpOk (LeafG l) g) ∧ (flatG (gs.map Grp.plain)).length ≤ (flatG gs).length := by
 refine ⟨fun g h => ?_, ?_⟩
 ·obtain ⟨x, hx, rfl⟩ := List.mem_map.1 h
  exact ⟨(hg x hx).plain.2, (hg x hx).plain.1⟩
 ·clear hg
  induction gs with
  | nil => exact Nat.le_refl _
  | cons g r ih =>
    have hlen : ∀ (ks : List Tree) (d e : Int), (flats d ks).length = (flats e ks).length := fun ks d e => by
     have := congrArg List.length (low_flats (d - e) d ks)
     unfold low at this
     rw [List.length_map, show d - (d - e) = e by omega] at this
     exact this
    rw [List.map_cons, flatG, flatG, List.length_append, List.length_append]
    have : g.plain.flat.length ≤ g.flat.length := by
     cases g with
     | tree t => exact Nat.le_refl _
     | hon ks => show (_ :: flats 1 ks).length ≤ (_ :: flats 1 ks).length; simp
     | ring ks => exact Nat.le_refl _
     | rhon ks =>
       show (_ :: flats 1 ks).length ≤ (_ :: _ :: flats 2 ks).length
       simp only [List.length_cons]
       rw [hlen ks 1 2]
       omega
    omega
theorem txOk_of {most : Int} {l : List Sg} (h0 : listE most l = 0) {gs : List Grp} (hl : (flatG gs).length ≤ 200) (hg : ∀ g ∈ gs, isPlain g ∧ GrpOk (LeafG l) g) : TxOk most l (LeafG l) gs :=
 ⟨fun f h => (leaf_sizes h0 h).1, szB_of h0, hg, hl⟩
theorem sizeP_ok {most : Int} {l : List Sg} {sg tn : Int} (h : 0 < (sizeP most l sg tn).1) : (sizeP most l sg tn).2.2 = 0 := by
 unfold sizeP at h ⊢
 split
 ·rename_i h0; rw [if_pos h0] at h; simp at h
 ·rename_i h0
  rw [if_neg h0] at h
  split
  ·rename_i h1; rw [if_pos h1] at h; simp at h
  ·rename_i h1
   rw [if_neg h1] at h
   split
   ·rename_i h2; rw [h2] at h; simp at h
   ·rename_i s h2
    rw [h2] at h
    simp only at h
    split
    ·rename_i h3; rw [if_pos h3] at h; simp at h
    ·rename_i h3
     split <;> rfl
theorem wide_of {most : Int} {l : List Sg} {b : PB} (h0 : 0 < (zOf most l).w b.lf) (h1 : (zOf most l).w b.lf ≤ 108) (hk : b.lf.kind = 1 ∨ b.lf.kind = 6) : wideOf most l b = some ((zOf most l).w b.lf) := by
 unfold wideOf
 rcases hk with hk | hk
 ·have e : (zOf most l).w b.lf = 4 * (sizeP most l b.lf.sign b.lf.turn).1 := by
   show (if b.lf.kind = 6 then _ else _) = _
   rw [if_neg (by omega)]
  rw [if_pos hk, if_pos (sizeP_ok (by omega)), e]
 ·have e : (zOf most l).w b.lf = 12 * b.lf.mx := by
   show (if b.lf.kind = 6 then _ else _) = _
   rw [if_pos hk]
  rw [if_neg (by omega)]
  congr 1
  omega
theorem scaleOfP_all {most : Int} {l : List Sg} {all : List PB} {s : Rat} : ∀ (xs : List PB), (∀ b ∈ xs, looseB all b = true → scaleB most l b = some s) → (∃ b ∈ xs, looseB all b = true) → scaleOfP most l all xs = some s
 | [], _, h => by obtain ⟨b, hb, _⟩ := h; cases hb
 | b :: r, h, hx => by
   unfold scaleOfP
   by_cases hb : looseB all b = true
   ·rw [if_pos hb]; exact h b (by simp) hb
   ·rw [if_neg hb]
    refine scaleOfP_all r (fun c hc => h c (by simp [hc])) ?_
    obtain ⟨c, hc, hl⟩ := hx
    rcases List.mem_cons.1 hc with rfl | hc
    ·exact absurd hl hb
    ·exact ⟨c, hc, hl⟩
mutual
theorem place_kind (z : Sz) : ∀ (t : Tree) (d x y : Int), Kd t → ∀ q ∈ place z d t x y, q.lf.kind = 1 ∨ q.lf.kind = 6
 | .leaf f, d, x, y, h, q, hq => by
   simp only [place, List.mem_singleton] at hq
   subst hq
   exact h
 | .over a b, d, x, y, h, q, hq => by
   simp only [place, List.mem_cons, List.not_mem_nil, or_false] at hq
   rcases hq with rfl | rfl
   ·exact .inl h.1
   ·exact .inl h.2
 | .beside ks, d, x, y, h, q, hq => placeB_kind z ks (d + 1) (sp d) _ x y h.2 q hq
 | .above ks, d, x, y, h, q, hq => placeA_kind z ks (d + 1) (sp d) _ x y h.2 q hq
theorem placeB_kind (z : Sz) : ∀ (ks : List Tree) (d s m x y : Int), Kds ks → ∀ q ∈ placeB z s d m ks x y, q.lf.kind = 1 ∨ q.lf.kind = 6
 | [], d, s, m, x, y, h, q, hq => by simp [placeB] at hq
 | t :: r, d, s, m, x, y, h, q, hq => by
   simp only [placeB, List.mem_append] at hq
   rcases hq with hq | hq
   ·exact place_kind z t d x _ h.1 q hq
   ·exact placeB_kind z r d s m _ y h.2 q hq
theorem placeA_kind (z : Sz) : ∀ (ks : List Tree) (d s m x y : Int), Kds ks → ∀ q ∈ placeA z s d m ks x y, q.lf.kind = 1 ∨ q.lf.kind = 6
 | [], d, s, m, x, y, h, q, hq => by simp [placeA] at hq
 | t :: r, d, s, m, x, y, h, q, hq => by
   simp only [placeA, List.mem_append] at hq
   rcases hq with hq | hq
   ·exact place_kind z t d _ y h.1 q hq
   ·exact placeA_kind z r d s m x _ h.2 q hq
end
theorem inSq_kind (z : Sz) (rb : Bool) {ks : List Tree} (h : Kds ks) : ∀ q ∈ inSq z rb ks, q.lf.kind = 1 ∨ q.lf.kind = 6 := by
 unfold inSq
 cases rb
 ·exact placeA_kind z ks 1 20 _ 48 48 h
 ·exact placeB_kind z ks 1 20 _ 48 48 h
section
variable {most : Int} {l : List Sg} {G : Lf → Prop} (hz : SzB (zOf most l) G)
include hz
theorem told_in (rb : Bool) {ks : List Tree} (h : TreesOk G 1 ks) (hn : ks ≠ [])  : OG.Told (zOf most l) G (inSq (zOf most l) rb ks) := by
 unfold inSq
 cases rb
 ·exact told_A hz ks 1 20 _ 48 48 (by omega) (by omega) h hn
 ·exact told_B hz ks 1 20 _ 48 48 (by omega) (by omega) h hn
theorem told_grp (rb : Bool) {g : Grp} (hp : isPlain g) (h : GrpOk G g) : (∀ q ∈ grpSq (zOf most l) rb g, q.lf.kind = 5 ∨ ClsQ (zOf most l) G (grpSq (zOf most l) rb g) q) ∧ ∃ q ∈ grpSq (zOf most l) rb g, LooseQ (zOf most l) G (grpSq (zOf most l) rb g) q := by
 cases g with
 | tree t =>
   have := told_tree hz t 0 0 0 (by omega) h
   exact ⟨fun q hq => .inr (this.all q hq), this.one⟩
 | hon ks => exact hp.elim
 | ring ks =>
   have ht := told_in hz rb h.2.2.2 (by intro e; have := h.1; rw [e] at this; simp at this)
   have up : ∀ q, LooseQ (zOf most l) G (inSq (zOf most l) rb ks) q → LooseQ (zOf most l) G (grpSq (zOf most l) rb (.ring ks)) q := by
    rintro q ⟨h1, h2, h3, h4⟩
    refine ⟨h1, h2, h3, fun a ha => ?_⟩
    simp only [grpSq, List.mem_cons] at ha
    rcases ha with rfl | ha
    ·rintro ⟨e, _⟩; cases e
    ·exact h4 a ha
   refine ⟨fun q hq => ?_, ?_⟩
   ·simp only [grpSq, List.mem_cons] at hq
    rcases hq with rfl | hq
    ·exact .inl rfl
    ·refine .inr ?_
     rcases ht.all q hq with h1 | ⟨a, ha, h1⟩
     ·exact .inl (up q h1)
     ·exact .inr ⟨a, by simp [grpSq, ha], h1⟩
   ·obtain ⟨q, hq, h1⟩ := ht.one
    exact ⟨q, by simp [grpSq, hq], up q h1⟩
 | rhon ks => exact hp.elim
theorem scale_grp (rb : Bool) {p : PG} (h : PgOk (zOf most l) G rb p) {xs : List PB} (hx : xs.Perm (pgBoxes (zOf most l) rb p)) : scaleOfP most l xs xs = some p.s := by
 have hsc := scG_ok hz rb h.plain h.ok h.small
 rw [← h.sc] at hsc
 have hk := quarter_pos hsc.pos
 obtain ⟨t1, q0, hq0, t2⟩ := told_grp hz rb h.plain h.ok
 obtain ⟨X, hX⟩ : ∃ X, X = pgX (zOf most l) rb p := ⟨_, rfl⟩
 obtain ⟨Y, hY⟩ : ∃ Y, Y = pgY (zOf most l) rb p := ⟨_, rfl⟩
 have hmem : ∀ b, b ∈ xs ↔ ∃ q ∈ grpSq (zOf most l) rb p.g, b = aff (p.s / 4) X Y q := by
  intro b
  rw [hx.mem_iff]
  unfold pgBoxes
  rw [List.mem_map, hX, hY]
  constructor
  ·rintro ⟨q, h1, h2⟩; exact ⟨q, h1, h2.symm⟩
  ·rintro ⟨q, h1, h2⟩; exact ⟨q, h1, h2.symm⟩
 have hloose : ∀ q ∈ grpSq (zOf most l) rb p.g, LooseQ (zOf most l) G (grpSq (zOf most l) rb p.g) q → looseB xs (aff (p.s / 4) X Y q) = true := by
  rintro q hq ⟨_, _, h3, h4⟩
  unfold looseB
  have e1 : decide ((aff (p.s / 4) X Y q).lf.kind = 5) = false := by
   rw [decide_eq_false_iff_not]
   show ¬ q.lf.kind = 5
   omega
  have e2 : (xs.any fun a => holdsP a (aff (p.s / 4) X Y q)) = false := by
   rw [List.any_eq_false]
   intro a ha
   obtain ⟨r, hr, rfl⟩ := (hmem a).1 ha
   rw [holds_aff hk]
   exact h4 r hr
  rw [e1, e2]
  rfl
 refine scaleOfP_all xs (fun b hb hl => ?_) ⟨_, (hmem _).2 ⟨q0, hq0, rfl⟩, hloose q0 hq0 t2⟩
 obtain ⟨q, hq, rfl⟩ := (hmem b).1 hb
 unfold looseB at hl
 simp only [Bool.not_eq_true', Bool.or_eq_false_iff, decide_eq_false_iff_not] at hl
 obtain ⟨l1, l2⟩ := hl
 rcases t1 q hq with h5 | h5
 ·exact absurd h5 l1
 rcases h5 with ⟨c1, c2, c3, c4⟩ | ⟨a, ha, c⟩
 ·have w0 := hz.w0 _ c2
  have w1 := hz.w1 _ c2
  have hw : wideOf most l (aff (p.s / 4) X Y q) = some ((zOf most l).w q.lf) := wide_of (b := aff (p.s / 4) X Y q) w0 w1 c3
  unfold scaleB
  rw [hw]
  simp only
  rw [if_neg (by omega)]
  congr 1
  show p.s / 4 * (q.w : Rat) * ((1 : Int) : Rat) / ((((zOf most l).w q.lf).toNat : Nat) : Rat) = p.s
  rw [c1]
  obtain ⟨n, hn⟩ : ∃ n : Nat, (zOf most l).w q.lf = n := ⟨((zOf most l).w q.lf).toNat, by omega⟩
  rw [hn] at w0 ⊢
  have hn0 : ((n : Nat) : Rat) ≠ 0 := by exact_mod_cast (show n ≠ 0 by omega)
  rw [Int.toNat_natCast, Rat.intCast_mul]
  have e1 : ((1 : Int) : Rat) = 1 := rfl
  have e4 : ((4 : Int) : Rat) = 4 := rfl
  have en : (((n : Nat) : Int) : Rat) = (n : Rat) := rfl
  rw [e1, e4, en]
  grind
 ·rw [List.any_eq_false] at l2
  exact absurd ((holds_aff hk).2 c) (l2 _ ((hmem _).2 ⟨a, ha, rfl⟩))
theorem guess_grp (rb : Bool) {p : PG} (h : PgOk (zOf most l) G rb p) {xs : List PB} (hx : xs.Perm (pgBoxes (zOf most l) rb p)) {r : Option (List Nd)} (hr : GuessR most l rb xs r) : r = some p.g.flat := by
 have hsc := scG_ok hz rb h.plain h.ok h.small
 rw [← h.sc] at hsc
 unfold GuessR at hr
 rw [scale_grp hz rb h hx] at hr
 simp only at hr
 obtain ⟨g, s, ln, po⟩ := p
 have hx2 : xs.Perm ((grpSq (zOf most l) rb g).map (aff (s / 4) (pgX (zOf most l) rb ⟨g, s, ln, po⟩) (pgY (zOf most l) rb ⟨g, s, ln, po⟩))) := hx
 obtain ⟨X, hX⟩ : ∃ X, X = pgX (zOf most l) rb ⟨g, s, ln, po⟩ := ⟨_, rfl⟩
 obtain ⟨Y, hY⟩ : ∃ Y, Y = pgY (zOf most l) rb ⟨g, s, ln, po⟩ := ⟨_, rfl⟩
 rw [← hX, ← hY] at hx2
 have hok := h.ok
 have hpl := h.plain
 cases g with
 | tree t =>
   have hkd : Kd t := TreeOk.kd 0 t hok
   have hno : xs.any isR = false := by
    rw [List.any_eq_false]
    intro b hb
    obtain ⟨q, hq, rfl⟩ := List.mem_map.1 (hx2.mem_iff.1 hb)
    have := place_kind (zOf most l) t 0 0 0 hkd q hq
    unfold isR
    simp only [decide_eq_true_eq]
    show ¬ q.lf.kind = 5
    omega
   rw [hno, if_neg (by decide)] at hr
   exact cut_tree hsc.pos (zOf most l) t 5 0 0 0 xs r (by decide) (okT hz hok) hkd hx2 hr
 | hon ks => exact hpl.elim
 | ring ks =>
   have hkd : Kds ks := TreesOk.kd 1 ks hok.2.2.2
   have hn : ks ≠ [] := by intro e; have := hok.1; rw [e] at this; simp at this
   have hyes : xs.any isR = true := by
    rw [List.any_eq_true]
    exact ⟨_, hx2.mem_iff.2 (List.mem_map.2 ⟨_, by simp [grpSq]; exact .inl rfl, rfl⟩), by simp [isR, aff, bare]⟩
   rw [hyes, if_pos rfl] at hr
   obtain ⟨ps, q, hs, ha, rfl⟩ := hr
   have hf : (xs.filter nring).Perm ((inSq (zOf most l) rb ks).map (aff (s / 4) X Y)) := by
    refine (hx2.filter nring).trans ?_
    simp only [grpSq, List.map_cons]
    rw [List.filter_cons_of_neg (by simp [nring, aff, bare]), List.filter_eq_self.2]
    intro b hb
    obtain ⟨q, hq, rfl⟩ := List.mem_map.1 hb
    have := inSq_kind (zOf most l) rb hkd q hq
    unfold nring
    simp only [Bool.not_eq_true', decide_eq_false_iff_not]
    show ¬ q.lf.kind = 5
    omega
   have hokk := okTs hz hok.2.2.2
   have key : q = some (flats 1 ks) := by
    cases rb
    ·have hrows := rowsA hsc.pos (x0 := X) (y0 := Y) (zOf most l) 20 1 (maxW (zOf most l) 1 ks) (by decide) ks 48 48 hokk hn
     refine cut_all hsc.pos (zOf most l) (x0 := X) (y0 := Y) ks 4 1 20 (maxW (zOf most l) 1 ks) 48 48 false (by decide) hokk hkd ps q ?_ ha
     refine parts_rows hrows ?_ hs
     refine hf.trans ?_
     rw [← List.map_flatten, if_neg (by decide), partsA_flat]
     exact List.Perm.refl _
    ·have hrows := rowsB hsc.pos (x0 := X) (y0 := Y) (zOf most l) 20 1 (maxH (zOf most l) 1 ks) (by decide) ks 48 48 hokk hn
     refine cut_all hsc.pos (zOf most l) (x0 := X) (y0 := Y) ks 4 1 20 (maxH (zOf most l) 1 ks) 48 48 true (by decide) hokk hkd ps q ?_ ha
     refine parts_rows hrows ?_ hs
     refine hf.trans ?_
     rw [← List.map_flatten, if_pos rfl, partsB_flat]
     exact List.Perm.refl _
   rw [key]
   rfl
 | rhon ks => exact hpl.elim
end
end Go.Proofs.OGW
