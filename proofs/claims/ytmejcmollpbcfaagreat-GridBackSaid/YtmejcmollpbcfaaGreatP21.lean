import Derived.Test.YtmejcmollpbcfaaGreatP04
import Derived.Test.YtmejcmollpbcfaaGreatP19
set_option linter.all false
namespace OG
def isBeside : Tree → Bool
 | .beside _ => true
 | _ => false
def isAbove : Tree → Bool
 | .above _ => true
 | _ => false
mutual
def TreeOk (G : Lf → Prop) (d : Int) : Tree → Prop
 | .leaf f => G f ∧ (f.kind = 1 ∨ f.kind = 6) ∧ d ≤ 4
 | .over a b => G a ∧ G b ∧ a.kind = 1 ∧ b.kind = 1 ∧ d ≤ 3
 | .beside ks => 2 ≤ ks.length ∧ ks.length ≤ 6 ∧ (∀ t ∈ ks, isBeside t = false) ∧ TreesOk G (d + 1) ks
 | .above ks => 2 ≤ ks.length ∧ ks.length ≤ 6 ∧ (∀ t ∈ ks, isAbove t = false) ∧ TreesOk G (d + 1) ks
def TreesOk (G : Lf → Prop) (d : Int) : List Tree → Prop
 | [] => True
 | t :: r => TreeOk G d t ∧ TreesOk G d r
end
mutual
theorem TreeOk.kd {G : Lf → Prop} : ∀ (d : Int) (t : Tree), TreeOk G d t → Kd t
 | _, .leaf _, h => h.2.1
 | _, .over _ _, h => ⟨h.2.2.1, h.2.2.2.1⟩
 | d, .beside ks, h => ⟨h.1, TreesOk.kd (d + 1) ks h.2.2.2⟩
 | d, .above ks, h => ⟨h.1, TreesOk.kd (d + 1) ks h.2.2.2⟩
theorem TreesOk.kd {G : Lf → Prop} : ∀ (d : Int) (ks : List Tree), TreesOk G d ks → Kds ks
 | _, [], _ => trivial
 | d, t :: r, h => ⟨TreeOk.kd d t h.1, TreesOk.kd d r h.2⟩
end
mutual
theorem TreeOk.ok {G : Lf → Prop} {z : Sz} (hz : ∀ f, G f → 0 < z.w f ∧ 0 < z.h f) : ∀ (d : Int) (t : Tree), TreeOk G d t → Ok z d t
 | _, .leaf f, h => ⟨(hz f h.1).1, (hz f h.1).2, h.2.2⟩
 | _, .over a _, h => ⟨(hz a h.1).1, (hz a h.1).2, h.2.2.2.2⟩
 | d, .beside ks, h => ⟨by intro e; have := h.1; rw [e] at this; simp at this, TreesOk.ok hz (d + 1) ks h.2.2.2⟩
 | d, .above ks, h => ⟨by intro e; have := h.1; rw [e] at this; simp at this, TreesOk.ok hz (d + 1) ks h.2.2.2⟩
theorem TreesOk.ok {G : Lf → Prop} {z : Sz} (hz : ∀ f, G f → 0 < z.w f ∧ 0 < z.h f) : ∀ (d : Int) (ks : List Tree), TreesOk G d ks → Oks z d ks
 | _, [], _ => trivial
 | d, t :: r, h => ⟨TreeOk.ok hz d t h.1, TreesOk.ok hz d r h.2⟩
end
theorem TreeOk.deep {G : Lf → Prop} : {d : Int} → {t : Tree} → TreeOk G d t → d ≤ 4
 | _, .leaf _, h => h.2.2
 | _, .over _ _, h => by have := h.2.2.2.2; omega
 | d, .beside (t :: r), h => by have := TreeOk.deep (t := t) h.2.2.2.1; omega
 | d, .beside [], h => by have := h.1; simp at this
 | d, .above (t :: r), h => by have := TreeOk.deep (t := t) h.2.2.2.1; omega
 | d, .above [], h => by have := h.1; simp at this
theorem TreesOk.all {G : Lf → Prop} {d : Int} : ∀ {ks : List Tree}, TreesOk G d ks → ∀ t ∈ ks, TreeOk G d t
 | [], _, t, h => by cases h
 | x :: r, h, t, ht => by
   rcases List.mem_cons.1 ht with e | ht
   ·rw [e]; exact h.1
   ·exact TreesOk.all h.2 t ht
mutual
theorem flat_ge : ∀ (d : Int) (t : Tree), ∀ n ∈ flat d t, d ≤ n.depth
 | d, .leaf l, n, h => by simp only [flat, List.mem_singleton] at h; subst h; exact Int.le_refl _
 | d, .over a b, n, h => by simp only [flat, List.mem_cons, List.not_mem_nil, or_false] at h; rcases h with rfl | rfl | rfl <;> simp <;> omega
 | d, .beside ks, n, h => by
   simp only [flat, List.mem_cons] at h
   rcases h with rfl | h
   ·exact Int.le_refl _
   ·have := flats_ge (d + 1) ks n h; omega
 | d, .above ks, n, h => by
   simp only [flat, List.mem_cons] at h
   rcases h with rfl | h
   ·exact Int.le_refl _
   ·have := flats_ge (d + 1) ks n h; omega
theorem flats_ge : ∀ (d : Int) (ks : List Tree), ∀ n ∈ flats d ks, d ≤ n.depth
 | d, [], n, h => by simp [flats] at h
 | d, t :: r, n, h => by
   simp only [flats, List.mem_append] at h
   rcases h with h | h
   ·exact flat_ge d t n h
   ·exact flats_ge d r n h
end
theorem flat_cons (d : Int) (t : Tree) : ∃ f tl, flat d t = ⟨f, d⟩ :: tl ∧ ∀ n ∈ tl, d < n.depth := by
 cases t with
 | leaf l => exact ⟨l, [], rfl, by simp⟩
 | over a b => exact ⟨bare 4, _, rfl, fun n h => by simp only [List.mem_cons, List.not_mem_nil, or_false] at h; rcases h with rfl | rfl <;> simp <;> omega⟩
 | beside ks => exact ⟨bare 2, flats (d + 1) ks, rfl, fun n h => by have := flats_ge (d + 1) ks n h; omega⟩
 | above ks => exact ⟨bare 3, flats (d + 1) ks, rfl, fun n h => by have := flats_ge (d + 1) ks n h; omega⟩
def Stop (d : Int) (rest : List Nd) : Prop := ∀ n, rest.head? = some n → n.depth ≤ d
theorem Stop.mono {d d' : Int} {rest : List Nd} (h : Stop d rest) (hd : d ≤ d') : Stop d' rest := fun n hn => by have := h n hn; omega
theorem stop_flats (d : Int) (ks : List Tree) (rest : List Nd) (h : Stop d rest) : Stop d (flats d ks ++ rest) := by
 cases ks with
 | nil => simpa [flats] using h
 | cons t r =>
   obtain ⟨f, tl, e, _⟩ := flat_cons d t
   intro n hn
   simp only [flats, e, List.cons_append, List.head?_cons, Option.some.injEq] at hn
   rw [← hn]; exact Int.le_refl _
inductive Rose where
 | mk (f : Lf) (ks : List Rose)
def Rose.lf : Rose → Lf
 | .mk f _ => f
def Rose.ks : Rose → List Rose
 | .mk _ ks => ks
mutual
def flatR (d : Int) : Rose → List Nd
 | .mk f ks => ⟨f, d⟩ :: flatRs (d + 1) ks
def flatRs (d : Int) : List Rose → List Nd
 | [] => []
 | r :: rs => flatR d r ++ flatRs d rs
end
def Steps : List Nd → Prop
 | a :: b :: r => b.depth ≤ a.depth + 1 ∧ Steps (b :: r)
 | _ => True
theorem Steps.tail {a : Nd} {l : List Nd} (h : Steps (a :: l)) : Steps l := by
 cases l with
 | nil => trivial
 | cons b r => exact h.2
theorem Steps.left : ∀ {l m : List Nd}, Steps (l ++ m) → Steps l
 | [], _, _ => trivial
 | [a], _, _ => trivial
 | a :: b :: r, m, h => ⟨h.1, Steps.left (l := b :: r) h.2⟩
theorem Steps.right : ∀ {l m : List Nd}, Steps (l ++ m) → Steps m
 | [], _, h => h
 | a :: r, m, h => Steps.right (l := r) h.tail
theorem takeWhile_split {α : Type} (p : α → Bool) (l : List α) : ∃ a b, l = a ++ b ∧ (∀ x ∈ a, p x = true) ∧ ∀ x, b.head? = some x → p x = false := by
 induction l with
 | nil => exact ⟨[], [], rfl, by simp, by simp⟩
 | cons x l ih =>
   obtain ⟨a, b, e, h1, h2⟩ := ih
   by_cases hx : p x = true
   ·exact ⟨x :: a, b, by rw [e]; rfl, by intro y hy; rcases List.mem_cons.1 hy with rfl | hy; exact hx; exact h1 y hy, h2⟩
   ·exact ⟨[], x :: l, rfl, by simp, by intro y hy; simp at hy; subst hy; simpa using hx⟩
theorem exists_roses : ∀ (n : Nat) (l : List Nd) (d : Int), l.length ≤ n → (∀ x ∈ l, d ≤ x.depth) → (∀ x, l.head? = some x → x.depth = d) → Steps l → ∃ rs, l = flatRs d rs := by
 intro n
 induction n with
 | zero =>
   intro l d hl _ _ _
   have : l = [] := List.eq_nil_of_length_eq_zero (by omega)
   exact ⟨[], by rw [this]; rfl⟩
 | succ n ih =>
   intro l d hl hd hh hs
   cases l with
   | nil => exact ⟨[], rfl⟩
   | cons a t =>
     obtain ⟨t1, t2, rfl, h1, h2⟩ := takeWhile_split (fun x : Nd => decide (d < x.depth)) t
     have ha : a.depth = d := hh a rfl
     simp only [List.length_cons, List.length_append] at hl
     obtain ⟨ks, hks⟩ := ih t1 (d + 1) (by omega) (fun x hx => by have := h1 x hx; simp at this; omega) (fun x hx => by
      cases t1 with
      | nil => simp at hx
      | cons b r =>
        simp at hx
        subst hx
        have h3 := h1 b (by simp)
        simp at h3
        have h4 : b.depth ≤ a.depth + 1 := hs.1
        omega) hs.tail.left
     obtain ⟨rs, hrs⟩ := ih t2 d (by omega) (fun x hx => hd x (by simp [hx])) (fun x hx => by
      have h3 := h2 x hx
      simp at h3
      have hm : x ∈ t2 := List.mem_of_mem_head? hx
      have := hd x (by simp [hm])
      omega) hs.tail.right
     refine ⟨.mk a.lf ks :: rs, ?_⟩
     rw [flatRs, flatR, ← hks, ← hrs]
     obtain ⟨f, e⟩ := a
     simp only at ha
     subst ha
     rfl
mutual
theorem flatR_ge : ∀ (d : Int) (r : Rose), ∀ n ∈ flatR d r, d ≤ n.depth
 | d, .mk f ks, n, h => by
   simp only [flatR, List.mem_cons] at h
   rcases h with rfl | h
   ·exact Int.le_refl _
   ·have := flatRs_ge (d + 1) ks n h; omega
theorem flatRs_ge : ∀ (d : Int) (ks : List Rose), ∀ n ∈ flatRs d ks, d ≤ n.depth
 | d, [], n, h => by simp [flatRs] at h
 | d, t :: r, n, h => by
   simp only [flatRs, List.mem_append] at h
   rcases h with h | h
   ·exact flatR_ge d t n h
   ·exact flatRs_ge d r n h
end
theorem flatR_eq (d : Int) (r : Rose) : flatR d r = ⟨r.lf, d⟩ :: flatRs (d + 1) r.ks := by cases r; rfl
theorem stop_flatRs (d : Int) (ks : List Rose) (rest : List Nd) (h : Stop d rest) : Stop d (flatRs d ks ++ rest) := by
 cases ks with
 | nil => simpa [flatRs] using h
 | cons t r =>
   intro n hn
   simp only [flatRs, flatR_eq, List.cons_append, List.head?_cons, Option.some.injEq] at hn
   rw [← hn]; exact Int.le_refl _
def kpos (d : Int) : Nat → List Rose → List Nat
 | _, [] => []
 | i, r :: rs => i :: kpos d (i + (flatR d r).length) rs
def kgo (dp : Int) : Nat → List Nd → List Nat
 | _, [] => []
 | i, n :: r => if n.depth < dp then [] else if n.depth = dp then i :: kgo dp (i + 1) r else kgo dp (i + 1) r
theorem kgo_deep (dp : Int) : ∀ (l : List Nd) (i : Nat) (rest : List Nd), (∀ n ∈ l, dp < n.depth) → kgo dp i (l ++ rest) = kgo dp (i + l.length) rest
 | [], i, rest, _ => rfl
 | n :: l, i, rest, h => by
   have h1 := h n (by simp)
   rw [List.cons_append, kgo, if_neg (by omega), if_neg (by omega), kgo_deep dp l (i + 1) rest (fun m hm => h m (by simp [hm])), List.length_cons]
   congr 1
   omega
theorem kgo_roses (d : Int) : ∀ (ks : List Rose) (i : Nat) (rest : List Nd), Stop (d - 1) rest → kgo d i (flatRs d ks ++ rest) = kpos d i ks
 | [], i, rest, h => by
   cases rest with
   | nil => rfl
   | cons n r =>
     have := h n rfl
     show (if n.depth < d then [] else _) = _
     rw [if_pos (by omega)]
     rfl
 | r :: ks, i, rest, h => by
   rw [flatRs, flatR_eq, List.append_assoc, List.cons_append, kgo, if_neg (by simp), if_pos rfl, kgo_deep d _ _ _ (fun n hn => by have := flatRs_ge (d + 1) r.ks n hn; omega), kgo_roses d ks _ rest h, kpos, flatR_eq, List.length_cons]
   congr 2
   omega
def lastK (ns : List Nd) : Nat → Int → Int
 | 0, _ => 0
 | i + 1, e => match ns[i]? with
   | some n => if n.depth = e then n.lf.kind else lastK ns i e
   | none => lastK ns i e
def parN (ns : List Nd) (e : Int) : Nat → Int
 | 0 => -1
 | i + 1 => match ns[i]? with
   | some n => if n.depth < e then (i : Int) else parN ns e i
   | none => parN ns e i
theorem tZ21 {P : Prop} (h : P := by
 intro l
 induction l with
 | nil => intro i rest _ _; rfl
 | cons a l ih =>
   intro i rest h hl
   have h1 : ns[i]? = some a := by have := congrArg List.head? h; rw [List.head?_drop] at this; simpa using this
   have h2 : ns.drop (i + 1) = l ++ rest := by rw [← List.drop_drop, h]; rfl
   have := ih (i + 1) rest h2 (fun n hn => hl n (by simp [hn]))
   rw [List.length_cons, show i + (l.length + 1) = i + 1 + l.length by omega, this]
   show (match ns[i]? with | some n => _ | none => _) = _
   rw [h1]
   have := hl a (by simp)
   exact if_neg (by omega)) : P := h
theorem lastK_skip (ns : List Nd) (e : Int) : ∀ (l : List Nd) (i : Nat) (rest : List Nd), ns.drop i = l ++ rest → (∀ n ∈ l, e < n.depth) → lastK ns (i + l.length) e = lastK ns i e := by
 exact tZ21
theorem parN_skip (ns : List Nd) (e : Int) : ∀ (l : List Nd) (i : Nat) (rest : List Nd), ns.drop i = l ++ rest → (∀ n ∈ l, e ≤ n.depth) → parN ns e (i + l.length) = parN ns e i := by
 exact tZ21
structure Par where
 at' : Int
 kind : Int
 many : Nat
structure Stands (ns : List Nd) (i : Nat) (d : Int) (f : Lf) (ks : List Rose) (rest : List Nd) (q : Par) : Prop where
 dr : ns.drop i = flatR d (.mk f ks) ++ rest
 st : Stop d rest
 lk : 0 < d → lastK ns i (d - 1) = q.kind
 pa : parN ns d i = q.at'
 pm : 0 < d → 0 ≤ q.at' ∧ ∃ n, ns[q.at'.toNat]? = some n ∧ n.depth = d - 1 ∧ n.lf.kind = q.kind ∧ (kgo d (q.at'.toNat + 1) (ns.drop (q.at'.toNat + 1))).length = q.many
mutual
def RAll (C : Par → Int → Lf → List Int → Prop) (i : Nat) (q : Par) (d : Int) : Rose → Prop
 | .mk f ks => C q d f (ks.map fun k => k.lf.kind) ∧ RsAll C (i + 1) ⟨i, f.kind, ks.length⟩ (d + 1) ks
def RsAll (C : Par → Int → Lf → List Int → Prop) (i : Nat) (q : Par) (d : Int) : List Rose → Prop
 | [] => True
 | r :: rs => RAll C i q d r ∧ RsAll C (i + (flatR d r).length) q d rs
end
theorem kpos_len (d : Int) : ∀ (ks : List Rose) (i : Nat), (kpos d i ks).length = ks.length
 | [], _ => rfl
 | r :: rs, i => by rw [kpos, List.length_cons, kpos_len d rs, List.length_cons]
section
variable (ns : List Nd) (P : Nat → Prop) (C : Par → Int → Lf → List Int → Prop) (hPC : ∀ i d f ks rest q, 0 ≤ d → Stands ns i d f ks rest q → (P i ↔ C q d f (ks.map fun k => k.lf.kind)))
include hPC
mutual
theorem all_rose : ∀ (r : Rose) (i : Nat) (d : Int) (rest : List Nd) (q : Par), 0 ≤ d → Stands ns i d r.lf r.ks rest q → ((∀ j, i ≤ j → j < i + (flatR d r).length → P j) ↔ RAll C i q d r)
 | .mk f ks, i, d, rest, q, h0, hs => by
   have h1 := hPC i d f ks rest q h0 hs
   have hdr : ns.drop i = ⟨f, d⟩ :: (flatRs (d + 1) ks ++ rest) := hs.dr
   have hi : ns[i]? = some ⟨f, d⟩ := by have := congrArg List.head? hdr; rw [List.head?_drop] at this; simpa using this
   have hd1 : ns.drop (i + 1) = flatRs (d + 1) ks ++ rest := by rw [← List.drop_drop, hdr]; rfl
   have h2 := all_roses ks (i + 1) (d + 1) rest ⟨i, f.kind, ks.length⟩ (by omega) hd1 (hs.st.mono (by omega))
    (fun _ => by
      show (match ns[i]? with | some n => _ | none => _) = _
      rw [hi]
      exact if_pos (by show d = d + 1 - 1; omega))
    (by
      show (match ns[i]? with | some n => _ | none => _) = _
      rw [hi]
      exact if_pos (by show d < d + 1; omega))
    (fun _ => ⟨by show (0 : Int) ≤ (i : Int); omega, ⟨f, d⟩, hi, by show d = d + 1 - 1; omega, rfl, by
      show (kgo (d + 1) (i + 1) (ns.drop (i + 1))).length = ks.length
      rw [hd1, kgo_roses (d + 1) ks (i + 1) rest (by rw [show d + 1 - 1 = d by omega]; exact hs.st), kpos_len]⟩)
   have hl : (flatR d (.mk f ks)).length = (flatRs (d + 1) ks).length + 1 := rfl
   rw [RAll, ← h1, ← h2, hl]
   constructor
   ·intro h
    exact ⟨h i (Nat.le_refl _) (by omega), fun j hj hj2 => h j (by omega) (by omega)⟩
   ·rintro ⟨ha, hb⟩ j hj hj2
    by_cases hji : j = i
    ·rw [hji]; exact ha
    ·exact hb j (by omega) (by omega)
theorem all_roses : ∀ (ks : List Rose) (i : Nat) (d : Int) (rest : List Nd) (q : Par), 0 ≤ d → ns.drop i = flatRs d ks ++ rest → Stop d rest → (0 < d → lastK ns i (d - 1) = q.kind) → parN ns d i = q.at' →
 (0 < d → 0 ≤ q.at' ∧ ∃ n, ns[q.at'.toNat]? = some n ∧ n.depth = d - 1 ∧ n.lf.kind = q.kind ∧ (kgo d (q.at'.toNat + 1) (ns.drop (q.at'.toNat + 1))).length = q.many) →
 ((∀ j, i ≤ j → j < i + (flatRs d ks).length → P j) ↔ RsAll C i q d ks)
 | [], i, d, rest, q, h0, hdr, hst, hlk, hpa, hpm => by
   simp only [flatRs, List.length_nil, RsAll]
   constructor
   ·intro _; trivial
   ·intro _ j hj hj2; omega
 | .mk f ks :: rs, i, d, rest, q, h0, hdr, hst, hlk, hpa, hpm => by
   have hdr' : ns.drop i = flatR d (.mk f ks) ++ (flatRs d rs ++ rest) := by rw [hdr, flatRs, List.append_assoc]
   have h1 := all_rose (.mk f ks) i d (flatRs d rs ++ rest) q h0 ⟨hdr', stop_flatRs d rs rest hst, hlk, hpa, hpm⟩
   have hdr2 : ns.drop (i + (flatR d (.mk f ks)).length) = flatRs d rs ++ rest := by rw [← List.drop_drop, hdr', List.drop_left]
   have h2 := all_roses rs (i + (flatR d (.mk f ks)).length) d rest q h0 hdr2 hst
    (fun hd => by rw [lastK_skip ns (d - 1) _ i _ hdr' (fun n hn => by have := flatR_ge d _ n hn; omega)]; exact hlk hd)
    (by rw [parN_skip ns d _ i _ hdr' (fun n hn => flatR_ge d _ n hn)]; exact hpa) hpm
   rw [RsAll, ← h1, ← h2, flatRs, List.length_append]
   constructor
   ·intro h
    exact ⟨fun j hj hj2 => h j hj (by omega), fun j hj hj2 => h j (by omega) (by omega)⟩
   ·rintro ⟨ha, hb⟩ j hj hj2
    by_cases hji : j < i + (flatR d (.mk f ks)).length
    ·exact ha j hj hji
    ·exact hb j (by omega) (by omega)
end
end
inductive Grp where
 | tree (t : Tree)
 | hon (ks : List Tree)
 | ring (ks : List Tree)
 | rhon (ks : List Tree)
def Grp.flat : Grp → List Nd
 | .tree t => OG.flat 0 t
 | .hon ks => ⟨bare 7, 0⟩ :: flats 1 ks
 | .ring ks => ⟨bare 5, 0⟩ :: flats 1 ks
 | .rhon ks => ⟨bare 5, 0⟩ :: ⟨bare 7, 1⟩ :: flats 2 ks
def flatG : List Grp → List Nd
 | [] => []
 | g :: r => g.flat ++ flatG r
def Grp.plain : Grp → Grp
 | .hon ks => .tree (.beside ks)
 | .rhon ks => .ring ks
 | g => g
def GrpOk (G : Lf → Prop) : Grp → Prop
 | .tree t => TreeOk G 0 t
 | .hon ks => 2 ≤ ks.length ∧ ks.length ≤ 6 ∧ (∀ t ∈ ks, isBeside t = false) ∧ TreesOk G 1 ks
 | .ring ks => 1 ≤ ks.length ∧ ks.length ≤ 6 ∧ (∀ t ∈ ks, isBeside t = false) ∧ TreesOk G 1 ks
 | .rhon ks => 2 ≤ ks.length ∧ ks.length ≤ 6 ∧ (∀ t ∈ ks, isBeside t = false) ∧ TreesOk G 2 ks
def isPlain : Grp → Prop
 | .tree _ => True
 | .ring _ => True
 | _ => False
mutual
theorem TreeOk.up {G : Lf → Prop} {d d' : Int} (h : d' ≤ d) : ∀ t : Tree, TreeOk G d t → TreeOk G d' t
 | .leaf f, k => ⟨k.1, k.2.1, by have := k.2.2; omega⟩
 | .over a b, k => ⟨k.1, k.2.1, k.2.2.1, k.2.2.2.1, by have := k.2.2.2.2; omega⟩
 | .beside ks, k => ⟨k.1, k.2.1, k.2.2.1, TreesOk.up (by omega) ks k.2.2.2⟩
 | .above ks, k => ⟨k.1, k.2.1, k.2.2.1, TreesOk.up (by omega) ks k.2.2.2⟩
theorem TreesOk.up {G : Lf → Prop} {d d' : Int} (h : d' ≤ d) : ∀ ks : List Tree, TreesOk G d ks → TreesOk G d' ks
 | [], _ => trivial
 | t :: r, k => ⟨TreeOk.up h t k.1, TreesOk.up h r k.2⟩
end
theorem GrpOk.plain {G : Lf → Prop} {g : Grp} (h : GrpOk G g) : GrpOk G g.plain ∧ isPlain g.plain := by
 cases g with
 | tree t => exact ⟨h, trivial⟩
 | hon ks => exact ⟨h, trivial⟩
 | ring ks => exact ⟨h, trivial⟩
 | rhon ks => exact ⟨⟨by have := h.1; omega, h.2.1, h.2.2.1, TreesOk.up (by decide) ks h.2.2.2⟩, trivial⟩
def cnt (k : Int) (l : List Int) : Nat := (l.filter fun x => decide (x = k)).length
theorem cnt_zero {k : Int} {l : List Int} : cnt k l = 0 ↔ k ∉ l := by
 unfold cnt
 rw [List.length_eq_zero_iff, List.filter_eq_nil_iff]
 constructor
 ·intro h hk; exact h k hk (by simp)
 ·intro h x hx; simp; rintro rfl; exact h hx
def famP (kind d : Int) (kk : List Int) (pk : Int) : Bool :=
 if kind ≠ 5 ∧ cnt 7 kk ≠ 0 then false
 else if kind = 2 then decide (2 ≤ kk.length) && decide (kk.length ≤ 6) && decide (cnt 2 kk = 0)
 else if kind = 3 then decide (2 ≤ kk.length) && decide (kk.length ≤ 6) && decide (cnt 3 kk = 0)
 else if kind = 4 then decide (kk.length = 2) && decide (cnt 1 kk = 2)
 else if kind = 5 then decide (1 ≤ kk.length) && decide (kk.length ≤ 6) && decide (cnt 2 kk = 0) && decide (d = 0) && (decide (cnt 7 kk = 0) || decide (kk.length = 1))
 else if kind = 7 then decide (2 ≤ kk.length) && decide (kk.length ≤ 6) && decide (cnt 2 kk = 0) && (decide (d = 0) || decide (pk = 5))
 else true
def kidR (kind kid : Int) : Bool := !(decide (kind = 4 ∧ kid ≠ 1) || decide ((kind = 2 ∨ kind = 5 ∨ kind = 7) ∧ kid = 2) || decide (kind = 3 ∧ kid = 3) || decide (kind = 7 ∧ kid = 7))
def lowR (kind : Int) : Int := if kind = 5 then 1 else if kind = 1 ∨ kind = 6 then 0 else 2
def highR (kind : Int) : Int := if kind = 4 then 2 else if kind = 1 ∨ kind = 6 then 0 else 6
def famR (kind d : Int) (kk : List Int) (pk : Int) (pm : Nat) : Bool :=
 if (kk.length : Int) < lowR kind ∨ highR kind < (kk.length : Int) ∨ (kind = 5 ∧ 0 < d) then false
 else if kind = 7 ∧ 0 < d ∧ (pk ≠ 5 ∨ pm ≠ 1) then false
 else kk.all (kidR kind)
def Loc (G : Lf → Prop) (d : Int) (f : Lf) : Prop := 0 ≤ d ∧ d ≤ 4 ∧ 1 ≤ f.kind ∧ f.kind ≤ 7 ∧ ((f.kind = 1 ∨ f.kind = 6) → G f) ∧ (f.kind ≠ 1 → f.kind ≠ 6 → f = bare f.kind)
def CP (G : Lf → Prop) (q : Par) (d : Int) (f : Lf) (kk : List Int) : Prop := Loc G d f ∧ ((f.kind = 1 ∨ f.kind = 6) → kk = []) ∧ famP f.kind d kk (if 0 < d then q.kind else 0) = true
def CR (G : Lf → Prop) (q : Par) (d : Int) (f : Lf) (kk : List Int) : Prop := Loc G d f ∧ ((f.kind = 1 ∨ f.kind = 6) → kk = []) ∧ famR f.kind d kk q.kind q.many = true
def CW (G : Lf → Prop) (q : Par) (d : Int) (f : Lf) (kk : List Int) : Prop :=
 Loc G d f ∧ ((f.kind = 1 ∨ f.kind = 6) → kk = []) ∧ (f.kind = 2 → 2 ≤ kk.length ∧ kk.length ≤ 6 ∧ 2 ∉ kk) ∧ (f.kind = 3 → 2 ≤ kk.length ∧ kk.length ≤ 6 ∧ 3 ∉ kk) ∧
 (f.kind = 4 → kk = [1, 1]) ∧ (f.kind = 5 → 1 ≤ kk.length ∧ kk.length ≤ 6 ∧ 2 ∉ kk ∧ d = 0 ∧ (7 ∈ kk → kk.length = 1)) ∧
 (f.kind = 7 → 2 ≤ kk.length ∧ kk.length ≤ 6 ∧ 2 ∉ kk ∧ 7 ∉ kk ∧ (0 < d → q.kind = 5))
def CV (G : Lf → Prop) (q : Par) (d : Int) (f : Lf) (kk : List Int) : Prop := CW G q d f kk ∧ (f.kind ≠ 5 → 7 ∉ kk) ∧ (f.kind = 7 → 0 < d → q.many = 1)
theorem list_two {α : Type} {l : List α} (h : l.length = 2) : ∃ a b, l = [a, b] := by
 match l, h with
 | [a, b], _ => exact ⟨a, b, rfl⟩
theorem list2 {kk : List Int} (h : kk.length = 2) (h1 : ∀ k ∈ kk, k = 1) : kk = [1, 1] := by
 match kk, h with
 | [a, b], _ => rw [h1 a (by simp), h1 b (by simp)]
theorem cnt_all {k : Int} {l : List Int} (h : cnt k l = l.length) : ∀ x ∈ l, x = k := by
 unfold cnt at h
 have := List.filter_eq_self.1 (List.filter_sublist.eq_of_length h)
 intro x hx
 simpa using this x hx
theorem CP.w {G : Lf → Prop} {q : Par} {d : Int} {f : Lf} {kk : List Int} (h : CP G q d f kk) : CW G q d f kk := by
 obtain ⟨h1, h2, h3⟩ := h
 unfold famP at h3
 by_cases h7 : f.kind ≠ 5 ∧ cnt 7 kk ≠ 0
 ·rw [if_pos h7] at h3; cases h3
 rw [if_neg h7] at h3
 refine ⟨h1, h2, ?_, ?_, ?_, ?_, ?_⟩
 ·intro hk
  rw [if_pos hk] at h3
  simp only [Bool.and_eq_true, decide_eq_true_eq] at h3
  exact ⟨h3.1.1, h3.1.2, cnt_zero.1 h3.2⟩
 ·intro hk
  rw [if_neg (by omega), if_pos hk] at h3
  simp only [Bool.and_eq_true, decide_eq_true_eq] at h3
  exact ⟨h3.1.1, h3.1.2, cnt_zero.1 h3.2⟩
 ·intro hk
  rw [if_neg (by omega), if_neg (by omega), if_pos hk] at h3
  simp only [Bool.and_eq_true, decide_eq_true_eq] at h3
  exact list2 h3.1 (cnt_all (by rw [h3.1, h3.2]))
 ·intro hk
  rw [if_neg (by omega), if_neg (by omega), if_neg (by omega), if_pos hk] at h3
  simp only [Bool.and_eq_true, Bool.or_eq_true, decide_eq_true_eq] at h3
  refine ⟨h3.1.1.1.1, h3.1.1.1.2, cnt_zero.1 h3.1.1.2, h3.1.2, fun h => ?_⟩
  rcases h3.2 with h4 | h4
  ·exact absurd h (cnt_zero.1 h4)
  ·exact h4
 ·intro hk
  rw [if_neg (by omega), if_neg (by omega), if_neg (by omega), if_neg (by omega), if_pos hk] at h3
  simp only [Bool.and_eq_true, Bool.or_eq_true, decide_eq_true_eq] at h3
  refine ⟨h3.1.1.1, h3.1.1.2, cnt_zero.1 h3.1.2, cnt_zero.1 (by omega), fun hd => ?_⟩
  rcases h3.2 with h4 | h4
  ·omega
  ·rwa [if_pos hd] at h4
theorem CV.p {G : Lf → Prop} {q : Par} {d : Int} {f : Lf} {kk : List Int} (h : CV G q d f kk) : CP G q d f kk := by
 obtain ⟨⟨h1, h2, a2, a3, a4, a5, a7⟩, b5, b7⟩ := h
 refine ⟨h1, h2, ?_⟩
 unfold famP
 rw [if_neg (by
  rintro ⟨h5, h6⟩
  exact h6 (cnt_zero.2 (b5 h5)))]
 split
 ·rename_i hk
  have := a2 hk
  simp only [Bool.and_eq_true, decide_eq_true_eq]
  exact ⟨⟨this.1, this.2.1⟩, cnt_zero.2 this.2.2⟩
 split
 ·rename_i hk
  have := a3 hk
  simp only [Bool.and_eq_true, decide_eq_true_eq]
  exact ⟨⟨this.1, this.2.1⟩, cnt_zero.2 this.2.2⟩
 split
 ·rename_i hk
  rw [a4 hk]
  rfl
 split
 ·rename_i hk
  have := a5 hk
  simp only [Bool.and_eq_true, Bool.or_eq_true, decide_eq_true_eq]
  refine ⟨⟨⟨⟨this.1, this.2.1⟩, cnt_zero.2 this.2.2.1⟩, this.2.2.2.1⟩, ?_⟩
  by_cases h7 : 7 ∈ kk
  ·exact .inr (this.2.2.2.2 h7)
  ·exact .inl (cnt_zero.2 h7)
 split
 ·rename_i hk
  have := a7 hk
  simp only [Bool.and_eq_true, Bool.or_eq_true, decide_eq_true_eq]
  refine ⟨⟨⟨this.1, this.2.1⟩, cnt_zero.2 this.2.2.1⟩, ?_⟩
  by_cases hd : 0 < d
  ·rw [if_pos hd]; exact .inr (this.2.2.2.2 hd)
  ·have := h1.1; exact .inl (by omega)
 ·rfl
theorem CV.r {G : Lf → Prop} {q : Par} {d : Int} {f : Lf} {kk : List Int} (h : CV G q d f kk) : CR G q d f kk := by
 obtain ⟨⟨h1, h2, a2, a3, a4, a5, a7⟩, b5, b7⟩ := h
 refine ⟨h1, h2, ?_⟩
 obtain ⟨_, _, k1, k7, _, _⟩ := h1
 unfold famR
 have hk : f.kind = 1 ∨ f.kind = 2 ∨ f.kind = 3 ∨ f.kind = 4 ∨ f.kind = 5 ∨ f.kind = 6 ∨ f.kind = 7 := by omega
 rcases hk with hk | hk | hk | hk | hk | hk | hk
 ·rw [h2 (.inl hk), hk]; rfl
 ·have := a2 hk
  rw [hk]
  rw [if_neg (by simp [lowR, highR]; omega), if_neg (by omega)]
  rw [List.all_eq_true]
  intro x hx
  have : x ≠ 2 := fun e => this.2.2 (e ▸ hx)
  simp [kidR, this]
 ·have := a3 hk
  rw [hk]
  rw [if_neg (by simp [lowR, highR]; omega), if_neg (by omega)]
  rw [List.all_eq_true]
  intro x hx
  have : x ≠ 3 := fun e => this.2.2 (e ▸ hx)
  simp [kidR, this]
 ·rw [a4 hk, hk]; rfl
 ·have := a5 hk
  rw [hk]
  rw [if_neg (by simp [lowR, highR]; omega), if_neg (by omega)]
  rw [List.all_eq_true]
  intro x hx
  have : x ≠ 2 := fun e => this.2.2.1 (e ▸ hx)
  simp [kidR, this]
 ·rw [h2 (.inr hk), hk]; rfl
 ·have := a7 hk
  rw [hk]
  rw [if_neg (by simp [lowR, highR]; omega), if_neg (by
   rintro ⟨_, hd, hn⟩
   rcases hn with hn | hn
   ·exact hn (this.2.2.2.2 hd)
   ·exact hn (b7 hk hd))]
  rw [List.all_eq_true]
  intro x hx
  have e2 : x ≠ 2 := fun e => this.2.2.1 (e ▸ hx)
  have e7 : x ≠ 7 := fun e => this.2.2.2.1 (e ▸ hx)
  simp [kidR, e2, e7]
theorem RsAll.mem {C : Par → Int → Lf → List Int → Prop} {q : Par} {d : Int} : ∀ {ks : List Rose} {i : Nat}, RsAll C i q d ks → ∀ k ∈ ks, ∃ j, RAll C j q d k
 | [], _, _, k, hk => by cases hk
 | r :: rs, i, h, k, hk => by
   rcases List.mem_cons.1 hk with e | hk
   ·exact ⟨i, by rw [e]; exact h.1⟩
   ·exact RsAll.mem h.2 k hk
theorem RAll.root {C : Par → Int → Lf → List Int → Prop} {q : Par} {d : Int} {r : Rose} {i : Nat} (h : RAll C i q d r) : C q d r.lf (r.ks.map fun k => k.lf.kind) ∧ RsAll C (i + 1) ⟨i, r.lf.kind, r.ks.length⟩ (d + 1) r.ks := by
 cases r; exact h
structure Asks (G : Lf → Prop) (C : Par → Int → Lf → List Int → Prop) : Prop where
 w : ∀ {q : Par} {d : Int} {f : Lf} {ks : List Rose} {i : Nat}, C q d f (ks.map fun k => k.lf.kind) → RsAll C (i + 1) ⟨i, f.kind, ks.length⟩ (d + 1) ks → CW G q d f (ks.map fun k => k.lf.kind)
theorem asksP (G : Lf → Prop) : Asks G (CP G) := ⟨fun h _ => h.w⟩
theorem asksR (G : Lf → Prop) : Asks G (CR G) := ⟨by
 intro q d f ks i h hk
 obtain ⟨h1, h2, h3⟩ := h
 unfold famR at h3
 split at h3
 ·cases h3
 split at h3
 ·cases h3
 rename_i hl h7
 rw [List.all_eq_true] at h3
 have hin : ∀ x, x ∈ (ks.map fun k => k.lf.kind) → kidR f.kind x = true := h3
 refine ⟨h1, h2, ?_, ?_, ?_, ?_, ?_⟩
 ·intro hf
  rw [hf] at hl hin
  simp [lowR, highR] at hl
  refine ⟨by simp; omega, by simp; omega, fun h => ?_⟩
  have := hin 2 h
  simp [kidR] at this
 ·intro hf
  rw [hf] at hl hin
  simp [lowR, highR] at hl
  refine ⟨by simp; omega, by simp; omega, fun h => ?_⟩
  have := hin 3 h
  simp [kidR] at this
 ·intro hf
  rw [hf] at hl hin
  simp [lowR, highR] at hl
  refine list2 (by simp; omega) (fun k hk => ?_)
  have := hin k hk
  simp [kidR] at this
  exact this
 ·intro hf
  rw [hf] at hl hin
  simp [lowR, highR] at hl
  have hd := h1.1
  refine ⟨by simp; omega, by simp; omega, fun h => ?_, by omega, fun h => ?_⟩
  ·have := hin 2 h
   simp [kidR] at this
  ·obtain ⟨k, hk1, hk2⟩ := List.mem_map.1 h
   obtain ⟨j, hj⟩ := hk.mem k hk1
   obtain ⟨⟨_, _, hr⟩, _⟩ := hj.root
   unfold famR at hr
   split at hr
   ·cases hr
   split at hr
   ·cases hr
   rename_i _ hn
   have : ¬ (f.kind ≠ 5 ∨ ks.length ≠ 1) := fun hx => hn ⟨hk2, by omega, hx⟩
   simp
   omega
 ·intro hf
  rw [hf] at hl hin
  simp [lowR, highR] at hl
  refine ⟨by simp; omega, by simp; omega, fun h => ?_, fun h => ?_, fun hd => ?_⟩
  ·have := hin 2 h
   simp [kidR] at this
  ·have := hin 7 h
   simp [kidR] at this
  ·by_cases h5 : q.kind = 5
   ·exact h5
   ·exact absurd ⟨hf, hd, .inl h5⟩ h7⟩
section
variable {G : Lf → Prop} {C : Par → Int → Lf → List Int → Prop} (hC : Asks G C)
include hC
mutual
theorem tree_of : ∀ (r : Rose) (i : Nat) (q : Par) (d : Int), RAll C i q d r → r.lf.kind ≠ 5 → r.lf.kind ≠ 7 → ∃ t, flat d t = flatR d r ∧ TreeOk G d t ∧ (isBeside t = true → r.lf.kind = 2) ∧ (isAbove t = true → r.lf.kind = 3)
 | .mk f ks, i, q, d, h, h5, h7 => by
   obtain ⟨hc, hk⟩ := h
   obtain ⟨⟨hd0, hd4, k1, k7, hG, hb⟩, h2, a2, a3, a4, a5, a7⟩ := hC.w hc hk
   have h5' : f.kind ≠ 5 := h5
   have h7' : f.kind ≠ 7 := h7
   have hcase : f.kind = 1 ∨ f.kind = 6 ∨ f.kind = 2 ∨ f.kind = 3 ∨ f.kind = 4 := by omega
   rcases hcase with hf | hf | hf | hf | hf
   ·have : ks = [] := List.map_eq_nil_iff.1 (h2 (.inl hf))
    subst this
    exact ⟨.leaf f, rfl, ⟨hG (.inl hf), .inl hf, hd4⟩, by simp [isBeside], by simp [isAbove]⟩
   ·have : ks = [] := List.map_eq_nil_iff.1 (h2 (.inr hf))
    subst this
    exact ⟨.leaf f, rfl, ⟨hG (.inr hf), .inr hf, hd4⟩, by simp [isBeside], by simp [isAbove]⟩
   ·obtain ⟨e1, e2, e3⟩ := a2 hf
    obtain ⟨ts, ht1, ht2, ht3, ht4, ht5⟩ := trees_of ks (i + 1) _ (d + 1) hk (by show f.kind ≠ 5; omega) (by omega)
    have hfb := hb (by omega) (by omega)
    rw [hf] at hfb
    rw [List.length_map] at e1 e2
    refine ⟨.beside ts, by rw [flat, flatR, ht1, hfb], ⟨by omega, by omega, fun t ht => ?_, ht3⟩, fun _ => hf, by simp [isAbove]⟩
    by_cases hbs : isBeside t = true
    ·obtain ⟨k, hk1, hk2⟩ := ht4 t ht hbs
     exact absurd (List.mem_map.2 ⟨k, hk1, hk2⟩) e3
    ·simpa using hbs
   ·obtain ⟨e1, e2, e3⟩ := a3 hf
    obtain ⟨ts, ht1, ht2, ht3, ht4, ht5⟩ := trees_of ks (i + 1) _ (d + 1) hk (by show f.kind ≠ 5; omega) (by omega)
    have hfb := hb (by omega) (by omega)
    rw [hf] at hfb
    rw [List.length_map] at e1 e2
    refine ⟨.above ts, by rw [flat, flatR, ht1, hfb], ⟨by omega, by omega, fun t ht => ?_, ht3⟩, by simp [isBeside], fun _ => hf⟩
    by_cases hbs : isAbove t = true
    ·obtain ⟨k, hk1, hk2⟩ := ht5 t ht hbs
     exact absurd (List.mem_map.2 ⟨k, hk1, hk2⟩) e3
    ·simpa using hbs
   ·have e1 := a4 hf
    obtain ⟨ra, rb, rfl⟩ := list_two (by have := congrArg List.length e1; rwa [List.length_map] at this)
    ·obtain ⟨fa, ka⟩ := ra
     obtain ⟨fb, kb⟩ := rb
     simp only [List.map_cons, List.map_nil, List.cons.injEq, and_true] at e1
     obtain ⟨⟨ha, hka⟩, ⟨hb2, hkb⟩, _⟩ := hk
     obtain ⟨⟨_, la4, _, _, lag, _⟩, na, _⟩ := hC.w ha hka
     obtain ⟨⟨_, _, _, _, lbg, _⟩, nb, _⟩ := hC.w hb2 hkb
     have e2 : fa.kind = 1 := e1.1
     have e3 : fb.kind = 1 := e1.2
     have n1 : ka = [] := List.map_eq_nil_iff.1 (na (.inl e2))
     have n2 : kb = [] := List.map_eq_nil_iff.1 (nb (.inl e3))
     subst n1 n2
     have hfb := hb (by omega) (by omega)
     rw [hf] at hfb
     exact ⟨.over fa fb, by simp [flat, flatR, flatRs, hfb], ⟨lag (.inl e2), lbg (.inl e3), e2, e3, by omega⟩, by simp [isBeside], by simp [isAbove]⟩
theorem trees_of : ∀ (ks : List Rose) (i : Nat) (q : Par) (d : Int), RsAll C i q d ks → q.kind ≠ 5 → 0 < d → ∃ ts, flats d ts = flatRs d ks ∧ ts.length = ks.length ∧ TreesOk G d ts ∧
 (∀ t ∈ ts, isBeside t = true → ∃ k ∈ ks, k.lf.kind = 2) ∧ (∀ t ∈ ts, isAbove t = true → ∃ k ∈ ks, k.lf.kind = 3)
 | [], i, q, d, h, h5, hd => ⟨[], rfl, rfl, trivial, by simp, by simp⟩
 | .mk f fk :: rs, i, q, d, h, h5, hd => by
   obtain ⟨⟨hc, hk⟩, hr⟩ := h
   have hw := hC.w hc hk
   obtain ⟨_, _, _, _, _, a5, a7⟩ := hw
   have n5 : f.kind ≠ 5 := fun e => by have := (a5 e).2.2.2.1; omega
   have n7 : f.kind ≠ 7 := fun e => h5 ((a7 e).2.2.2.2 hd)
   obtain ⟨t, t1, t2, t3, t4⟩ := tree_of (.mk f fk) i q d ⟨hc, hk⟩ n5 n7
   obtain ⟨ts, u1, u2, u3, u4, u5⟩ := trees_of rs _ q d hr h5 hd
   refine ⟨t :: ts, by rw [flats, flatRs, t1, u1], by simp [u2], ⟨t2, u3⟩, ?_, ?_⟩
   ·intro x hx hb
    rcases List.mem_cons.1 hx with rfl | hx
    ·exact ⟨_, by simp, t3 hb⟩
    ·obtain ⟨k, k1, k2⟩ := u4 x hx hb
     exact ⟨k, by simp [k1], k2⟩
   ·intro x hx hb
    rcases List.mem_cons.1 hx with rfl | hx
    ·exact ⟨_, by simp, t4 hb⟩
    ·obtain ⟨k, k1, k2⟩ := u5 x hx hb
     exact ⟨k, by simp [k1], k2⟩
end
theorem trees_no7 : ∀ (ks : List Rose) (i : Nat) (q : Par) (d : Int), RsAll C i q d ks → (∀ k ∈ ks, k.lf.kind ≠ 7) → 0 < d → ∃ ts, flats d ts = flatRs d ks ∧ ts.length = ks.length ∧ TreesOk G d ts ∧
 (∀ t ∈ ts, isBeside t = true → ∃ k ∈ ks, k.lf.kind = 2)
 | [], i, q, d, h, h7, hd => ⟨[], rfl, rfl, trivial, by simp⟩
 | .mk f fk :: rs, i, q, d, h, h7, hd => by
   obtain ⟨⟨hc, hk⟩, hr⟩ := h
   have hw := hC.w hc hk
   obtain ⟨_, _, _, _, _, a5, a7⟩ := hw
   have n5 : f.kind ≠ 5 := fun e => by have := (a5 e).2.2.2.1; omega
   obtain ⟨t, t1, t2, t3, t4⟩ := tree_of hC (.mk f fk) i q d ⟨hc, hk⟩ n5 (h7 _ (by simp))
   obtain ⟨ts, u1, u2, u3, u4⟩ := trees_no7 rs _ q d hr (fun k hk => h7 k (by simp [hk])) hd
   refine ⟨t :: ts, by rw [flats, flatRs, t1, u1], by simp [u2], ⟨t2, u3⟩, ?_⟩
   intro x hx hb
   rcases List.mem_cons.1 hx with rfl | hx
   ·exact ⟨_, by simp, t3 hb⟩
   ·obtain ⟨k, k1, k2⟩ := u4 x hx hb
    exact ⟨k, by simp [k1], k2⟩
theorem no_beside {ts : List Tree} {ks : List Rose} (h : ∀ t ∈ ts, isBeside t = true → ∃ k ∈ ks, k.lf.kind = 2) (hn : 2 ∉ ks.map fun k => k.lf.kind) : ∀ t ∈ ts, isBeside t = false := by
 intro t ht
 by_cases hb : isBeside t = true
 ·obtain ⟨k, k1, k2⟩ := h t ht hb
  exact absurd (List.mem_map.2 ⟨k, k1, k2⟩) hn
 ·simpa using hb
theorem grp_of (r : Rose) (i : Nat) (q : Par) (h : RAll C i q 0 r) : ∃ g, Grp.flat g = flatR 0 r ∧ GrpOk G g := by
 obtain ⟨f, ks⟩ := r
 by_cases h5 : f.kind = 5
 ·obtain ⟨hc, hk⟩ := h
  obtain ⟨⟨hd0, hd4, k1, k7, hG, hb⟩, h2, a2, a3, a4, a5, a7⟩ := hC.w hc hk
  obtain ⟨e1, e2, e3, _, e7⟩ := a5 h5
  have hfb := hb (by omega) (by omega)
  rw [h5] at hfb
  by_cases h7 : 7 ∈ ks.map fun k => k.lf.kind
  ·have hl := e7 h7
   rw [List.length_map] at hl
   obtain ⟨k, rfl⟩ := List.length_eq_one_iff.1 hl
   obtain ⟨g, gs⟩ := k
   simp only [List.map_cons, List.map_nil, List.mem_singleton] at h7
   have h7' : g.kind = 7 := h7.symm
   obtain ⟨⟨gc, gk⟩, _⟩ := hk
   obtain ⟨⟨_, _, _, _, _, gb⟩, _, _, _, _, _, b7⟩ := hC.w gc gk
   obtain ⟨c1, c2, c3, c4, _⟩ := b7 h7'
   obtain ⟨ts, t1, t2, t3, t4⟩ := trees_no7 hC gs _ _ _ gk (fun k hk e => c4 (List.mem_map.2 ⟨k, hk, e⟩)) (by omega)
   have hgb := gb (by omega) (by omega)
   rw [h7'] at hgb
   rw [List.length_map] at c1 c2
   refine ⟨.rhon ts, ?_, by omega, by omega, no_beside hC t4 c3, t3⟩
   simp only [Grp.flat, flatR, flatRs, List.append_nil, hfb, hgb]
   rw [show (2 : Int) = 0 + 1 + 1 from rfl, t1]
   rfl
  ·obtain ⟨ts, t1, t2, t3, t4⟩ := trees_no7 hC ks _ _ _ hk (fun k hk e => h7 (List.mem_map.2 ⟨k, hk, e⟩)) (by omega)
   rw [List.length_map] at e1 e2
   refine ⟨.ring ts, ?_, by omega, by omega, no_beside hC t4 e3, t3⟩
   rw [Grp.flat, flatR, hfb, ← t1]
   rfl
 ·by_cases h7 : f.kind = 7
  ·obtain ⟨hc, hk⟩ := h
   obtain ⟨⟨hd0, hd4, k1, k7, hG, hb⟩, h2, a2, a3, a4, a5, a7⟩ := hC.w hc hk
   obtain ⟨c1, c2, c3, c4, _⟩ := a7 h7
   have hfb := hb (by omega) (by omega)
   rw [h7] at hfb
   obtain ⟨ts, t1, t2, t3, t4⟩ := trees_no7 hC ks _ _ _ hk (fun k hk e => c4 (List.mem_map.2 ⟨k, hk, e⟩)) (by omega)
   rw [List.length_map] at c1 c2
   refine ⟨.hon ts, ?_, by omega, by omega, no_beside hC t4 c3, t3⟩
   rw [Grp.flat, flatR, hfb, ← t1]
   rfl
  ·obtain ⟨t, t1, t2, _⟩ := tree_of hC (.mk f ks) i q 0 h h5 h7
   exact ⟨.tree t, t1, t2⟩
theorem grps_of : ∀ (rs : List Rose) (i : Nat) (q : Par), RsAll C i q 0 rs → ∃ gs, flatG gs = flatRs 0 rs ∧ ∀ g ∈ gs, GrpOk G g
 | [], _, _, _ => ⟨[], rfl, by simp⟩
 | r :: rs, i, q, h => by
   obtain ⟨g, g1, g2⟩ := grp_of hC r i q h.1
   obtain ⟨gs, h1, h2⟩ := grps_of rs _ q h.2
   refine ⟨g :: gs, by rw [flatG, flatRs, g1, h1], ?_⟩
   intro x hx
   rcases List.mem_cons.1 hx with rfl | hx
   ·exact g2
   ·exact h2 x hx
end
end OG
namespace Go.Proofs.OGW
open Go.RowKit Go.Sort
section
variable {P : Program} {ops : Array Oper} {md : Region.Mode} {C : World → Prop} {Q : Exit → Act → World → Prop} {E : List Nat}
def wpV (P : Program) (ops : Array Oper) (Q : Exit → Act → World → Prop) (C : World → Prop) (R : Act → World → Prop) : List Oper → Act → World → Prop
 | [], a, w => R a w
 | u :: us, a, w => if Region.wanted u (yielded ops a.tmps) then u.wp P a w (fun a' w' => C w' ∧ wpV P ops Q C R us a' w') Q ∨ (u.asks P a w ∧ LetsOut Q) else C w ∧ wpV P ops Q C R us (a.put u.dst undef) w
theorem wpV_nil {R : Act → World → Prop} {a : Act} {w : World} (h : R a w) : wpV P ops Q C R [] a w := h
theorem wpV_step {R : Act → World → Prop} {us : List Oper} {u : Oper} {a : Act} {w : World} (hg : u.guard = none) (h : ∀ K : Act → World → Prop, Hid (∀ a' w', C w' → wpV P ops Q C R us a' w' → K a' w') → u.wp P a w K Q) : wpV P ops Q C R (u :: us) a w := by
 unfold wpV
 exact tZ79
theorem F_vs {R : Act → World → Prop} {f : Nat} {l1 : Array Bool} (hend : ∀ a w, R a w → wpAnyF P md ops Q C E f l1 a w) : ∀ (us : List Nat) (listed : Array Bool) (a : Act) (w : World), (∀ i ∈ us, i < ops.size) →
 soloL md ops us listed = some l1 → wpV P ops Q C R (us.filterMap fun i => ops[i]?) a w → wpAnyF P md ops Q C E (us.length + f) listed a w
 | [], _, a, w, _, hp, h => by
   obtain rfl := Option.some.inj hp
   rw [List.length_nil, Nat.zero_add]
   exact hend a w h
 | u :: r, listed, a, w, hlt, hp, h => by
   obtain ⟨o, h0⟩ : ∃ o, ops[u]? = some o := ⟨_, Array.getElem?_eq_getElem (hlt u (by simp))⟩
   unfold soloL at hp
   split at hp
   ·rename_i hrf
    simp only [decide_eq_true_eq] at hrf
    simp only [List.filterMap_cons, h0] at h
    have e : (u :: r).length + f = (r.length + f) + 1 := by simp; omega
    rw [e]
    refine ⟨fun h1 => (by rw [hrf] at h1; cases h1), fun i hi => ?_⟩
    rw [hrf] at hi
    obtain rfl := List.mem_singleton.1 hi
    have hw : wpOp P ops Q i (fun a' w' => C w' ∧ wpV P ops Q C R (r.filterMap fun i => ops[i]?) a' w') a w := by
     unfold wpOp
     simp only [h0]
     exact h
    exact wpOp_mono (fun a' w' h' => ⟨fun _ => h'.1, F_vs hend r _ a' w' (fun j hj => hlt j (List.mem_cons_of_mem _ hj)) hp h'.2⟩) hw
   ·cases hp
end
def freeB2 (md : Region.Mode) (ops : Array Oper) (ps ls us zs ts : List Nat) : Bool :=
 Region.noSelect ops && (ps ++ (ls ++ (us ++ (zs ++ ts)))).all (fun i => decide (i < ops.size)) && decide ((ps ++ (ls ++ (us ++ (zs ++ ts)))).length = ops.size) && ps.all (fun i => !(ls ++ us).contains i) && zs.all (fun i => !(ls ++ us).contains i) && ts.all (fun i => !(ls ++ us).contains i) &&
 (match pureL md ops ps (Array.replicate ops.size false) with | none => false | some l => match takeL md ops (ls ++ us) ls l with | none => false | some l1 => match soloL md ops us l1 with | none => false | some l2 => match pureL md ops zs l2 with | none => false | some l3 => seqL md ops ts l3)
theorem region_free2 {P : Program} {C : World → Prop} {id : Nat} {Q : Exit → Act → World → Prop} {a : Act} {w : World} {l : List Oper} (ps ls us zs ts : List Nat) (hm : P.follows .mixedOrders = true) (hB : freeB2 .any l.toArray ps ls us zs ts = true)
 (hQ : ∀ (d : Option Tmp) (v : Value) c (a : Act) w, Q (.panic c) (a.put d v) w → Q (.panic c) a w) (hC : C { w with drawn := w.drawn + 1 })
 (h : wpPure P l.toArray (wpTake P l.toArray C (fun a' => wpV P l.toArray Q C (fun a2 w2 => wpPure P l.toArray (fun a3 => wpList P l.toArray Q (ts.filterMap fun i => l[i]?) a3 w2) (zs.filterMap fun i => l[i]?) a2) (us.filterMap fun i => l[i]?) a' { w with drawn := w.drawn + 1 }) (ls.filterMap fun i => l[i]?)) (ps.filterMap fun i => l[i]?) a) : (Code.region id l.toArray true).wp P Q a w := by
 simp only [freeB2, Bool.and_eq_true, decide_eq_true_eq] at hB
 obtain ⟨⟨⟨⟨⟨⟨hsel, hlt⟩, hlen⟩, hps⟩, hzs⟩, hts⟩, hs⟩ := hB
 cases hp : pureL .any l.toArray ps (Array.replicate l.toArray.size false) with
 | none => rw [hp] at hs; cases hs
 | some l0 =>
   rw [hp] at hs
   cases hq : takeL .any l.toArray (ls ++ us) ls l0 with
   | none => simp only [hq] at hs; cases hs
   | some l1 =>
     simp only [hq] at hs
     cases hu : soloL .any l.toArray us l1 with
     | none => simp only [hu] at hs; cases hs
     | some l2 =>
       simp only [hu] at hs
       cases hz : pureL .any l.toArray zs l2 with
       | none => simp only [hz] at hs; cases hs
       | some l3 =>
         simp only [hz] at hs
         have hlt' : ∀ i ∈ ps ++ (ls ++ (us ++ (zs ++ ts))), i < l.toArray.size := fun i hi => by simpa using List.all_eq_true.1 hlt i hi
         have hps' : ∀ i ∈ ps, i ∉ ls ++ us := fun i hi => by simpa using List.all_eq_true.1 hps i hi
         have hzs' : ∀ i ∈ zs, i ∉ ls ++ us := fun i hi => by simpa using List.all_eq_true.1 hzs i hi
         have hts' : ∀ i ∈ ts, i ∉ ls ++ us := fun i hi => by simpa using List.all_eq_true.1 hts i hi
         have hg : ∀ (m : List Nat), (m.filterMap fun i => l[i]?) = m.filterMap fun i => l.toArray[i]? := fun m => by simp
         rw [hg ps, hg ls, hg us, hg zs, hg ts] at h
         refine wp_region_any hm (any_of_F (C := C) (E := ls ++ us) _ _ _ _ ?_)
         have h1 := pureL_size ps _ hp
         have m1 : ∀ i ∈ ls, i < l.toArray.size := fun i hi => hlt' i (List.mem_append.2 (.inr (List.mem_append.2 (.inl hi))))
         have m2 : ∀ i ∈ us, i < l.toArray.size := fun i hi => hlt' i (List.mem_append.2 (.inr (List.mem_append.2 (.inr (List.mem_append.2 (.inl hi))))))
         have m3 : ∀ i ∈ zs, i < l.toArray.size := fun i hi => hlt' i (List.mem_append.2 (.inr (List.mem_append.2 (.inr (List.mem_append.2 (.inr (List.mem_append.2 (.inl hi))))))))
         have m4 : ∀ i ∈ ts, i < l.toArray.size := fun i hi => hlt' i (List.mem_append.2 (.inr (List.mem_append.2 (.inr (List.mem_append.2 (.inr (List.mem_append.2 (.inr hi))))))))
         have R := F_pures (P := P) (md := .any) (ops := l.toArray) (E := ls ++ us) (Q := Q) (C := C) (hsel := hsel) hQ (ls.length + (us.length + (zs.length + ts.length))) (w := { w with drawn := w.drawn + 1 }) ps (Array.replicate l.toArray.size false) a
          (fun i hi => hlt' i (List.mem_append.2 (.inl hi))) hps' hp h
          (fun a' hr => F_takes (hsel := hsel) hQ (us.length + (zs.length + ts.length)) hC ls l0 a' m1 (by rw [h1]; simp) hq hr
            (fun a2 hr2 => F_vs (fun a3 w3 h3 => F_pures (hsel := hsel) hQ ts.length (w := w3) zs l2 a3 m3 hzs' hz h3 (fun a4 h4 => F_ts ts l3 a4 w3 m4 hts' hs h4)) us l1 a2 _ m2 hu hr2))
         have e : ps.length + (ls.length + (us.length + (zs.length + ts.length))) = l.toArray.size := by rw [← hlen, List.length_append, List.length_append, List.length_append, List.length_append]
         rw [e] at R
         exact R
theorem free2_grown {id : Nat} {Q : Exit → Act → World → Prop} {a : Act} {w : World} {l : List Oper} (ps ls us zs ts : List Nat) (hB : freeB2 .any l.toArray ps ls us zs ts = true)
 (hQ : ∀ (d : Option Tmp) (v : Value) c (a : Act) w, Q (.panic c) (a.put d v) w → Q (.panic c) a w)
 (h : wpPure Tryz.prog l.toArray (wpTake Tryz.prog l.toArray (Gr w) (fun a' => wpV Tryz.prog l.toArray Q (Gr w) (fun a2 w2 => wpPure Tryz.prog l.toArray (fun a3 => wpList Tryz.prog l.toArray Q (ts.filterMap fun i => l[i]?) a3 w2) (zs.filterMap fun i => l[i]?) a2) (us.filterMap fun i => l[i]?) a' w.drew) (ls.filterMap fun i => l[i]?)) (ps.filterMap fun i => l[i]?) a) :
 (Code.region id l.toArray true).wp Tryz.prog Q a w :=
 region_free2 ps ls us zs ts mixed hB hQ ((Gr.refl w).drewN 1) h
end Go.Proofs.OGW
