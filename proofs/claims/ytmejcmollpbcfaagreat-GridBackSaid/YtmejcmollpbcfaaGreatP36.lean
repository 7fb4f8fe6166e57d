import Derived.Test.YtmejcmollpbcfaaGreatP29
set_option linter.all false
namespace OG
structure SzB (z : Sz) (G : Lf → Prop) : Prop where
 w0 : ∀ f, G f → 0 < z.w f
 w1 : ∀ f, G f → z.w f ≤ 108
 w4 : ∀ f, G f → (4 : Int) ∣ z.w f
 h0 : ∀ f, G f → 0 < z.h f
 h1 : ∀ f, G f → z.h f ≤ 48
 h4 : ∀ f, G f → (4 : Int) ∣ z.h f
theorem sp_le {d : Int} (h : 0 ≤ d) : sp d ≤ 20 := by simp [sp]; omega
theorem sp_ge {d : Int} (h : d ≤ 4) : 4 ≤ sp d := by simp [sp]; omega
theorem sp_4 (d : Int) : (4 : Int) ∣ sp d := ⟨5 - d, rfl⟩
section
variable {z : Sz} {G : Lf → Prop} (hz : SzB z G)
include hz
mutual
theorem nat_bd : ∀ (t : Tree) (d : Int), 0 ≤ d → TreeOk G d t → 0 < natW z d t ∧ natW z d t + 20 ≤ 128 * ((flat d t).length : Int) ∧ (4 : Int) ∣ natW z d t ∧ 0 < natH z d t ∧ natH z d t + 20 ≤ 128 * ((flat d t).length : Int) ∧ (4 : Int) ∣ natH z d t
 | .leaf f, d, h0, h => by
   have := hz.w0 f h.1; have := hz.w1 f h.1; have := hz.w4 f h.1; have := hz.h0 f h.1; have := hz.h1 f h.1; have := hz.h4 f h.1
   simp only [natW, natH, flat, List.length_singleton]
   refine ⟨by omega, by omega, by assumption, by omega, by omega, by assumption⟩
 | .over f _, d, h0, h => by
   have := hz.w0 f h.1; have := hz.w1 f h.1; have := hz.w4 f h.1; have := hz.h0 f h.1; have := hz.h1 f h.1; have := hz.h4 f h.1
   simp only [natW, natH, flat, List.length_cons, List.length_nil]
   refine ⟨by omega, by omega, by assumption, by omega, by omega, by assumption⟩
 | .beside ks, d, h0, h => by
   have hd := h.deep
   obtain ⟨h1, h2, h3, hk⟩ := h
   have hn : ks ≠ [] := by intro e; rw [e] at h1; simp at h1
   obtain ⟨⟨a1, a2, a3, a4, a5, a6, a7, a8, a9, a10⟩, a11, a12, a13, a14⟩ := nats_bd ks (d + 1) (sp d) (by omega) (by have := sp_ge hd; omega) (sp_le h0) (sp_4 d) hk
   have := sp_le h0
   have hg := sp_ge hd
   have hs := sp_4 d
   simp only [natW, natH, flat, List.length_cons, Int.natCast_add]
   exact ⟨a7 hn, by omega, by omega, a9 hn, by omega, a6⟩
 | .above ks, d, h0, h => by
   have hd := h.deep
   obtain ⟨h1, h2, h3, hk⟩ := h
   have hn : ks ≠ [] := by intro e; rw [e] at h1; simp at h1
   obtain ⟨⟨a1, a2, a3, a4, a5, a6, a7, a8, a9, a10⟩, a11, a12, a13, a14⟩ := nats_bd ks (d + 1) (sp d) (by omega) (by have := sp_ge hd; omega) (sp_le h0) (sp_4 d) hk
   have := sp_le h0
   have hg := sp_ge hd
   have hs := sp_4 d
   simp only [natW, natH, flat, List.length_cons, Int.natCast_add]
   exact ⟨a10 hn, by omega, a5, a8 hn, by omega, by omega⟩
theorem nats_bd : ∀ (ks : List Tree) (d s : Int), 0 ≤ d → 0 ≤ s → s ≤ 20 → (4 : Int) ∣ s → TreesOk G d ks →
 (sumW z s d ks ≤ 128 * ((flats d ks).length : Int) ∧ (4 : Int) ∣ sumW z s d ks ∧ sumH z s d ks ≤ 128 * ((flats d ks).length : Int) ∧ (4 : Int) ∣ sumH z s d ks ∧ (4 : Int) ∣ maxW z d ks ∧ (4 : Int) ∣ maxH z d ks ∧
 (ks ≠ [] → 0 < sumW z s d ks - s) ∧ (ks ≠ [] → 0 < sumH z s d ks - s) ∧ (ks ≠ [] → 0 < maxH z d ks) ∧ (ks ≠ [] → 0 < maxW z d ks)) ∧ maxW z d ks ≤ 128 * ((flats d ks).length : Int) ∧ maxH z d ks ≤ 128 * ((flats d ks).length : Int) ∧
 0 ≤ sumW z s d ks ∧ 0 ≤ sumH z s d ks
 | [], d, s, h0, hs0, hs, h4, h => by simp [sumW, sumH, maxW, maxH, flats]
 | t :: r, d, s, h0, hs0, hs, h4, h => by
   obtain ⟨a1, a2, a3, a4, a5, a6⟩ := nat_bd t d h0 h.1
   obtain ⟨⟨b1, b2, b3, b4, b5, b6, b7, b8, b9, b10⟩, b11, b12, b13, b14⟩ := nats_bd r d s h0 hs0 hs h4 h.2
   simp only [sumW, sumH, maxW, maxH, flats, List.length_append, Int.natCast_add]
   refine ⟨⟨by omega, by omega, by omega, by omega, ?_, ?_, fun _ => by omega, fun _ => by omega, fun _ => by omega, fun _ => by omega⟩, by omega, by omega, by omega, by omega⟩
   ·rcases Int.le_total (natW z d t) (maxW z d r) with e | e
    ·rw [Int.max_eq_right e]; exact b5
    ·rw [Int.max_eq_left e]; exact a3
   ·rcases Int.le_total (natH z d t) (maxH z d r) with e | e
    ·rw [Int.max_eq_right e]; exact b6
    ·rw [Int.max_eq_left e]; exact a6
end
theorem natW_bd {t : Tree} {d : Int} (h0 : 0 ≤ d) (h : TreeOk G d t) : 0 < natW z d t ∧ 0 < natH z d t := ⟨(nat_bd hz t d h0 h).1, (nat_bd hz t d h0 h).2.2.2.1⟩
end
structure Sq4 (q : Sq) : Prop where
 x : (4 : Int) ∣ q.x
 y : (4 : Int) ∣ q.y
 w : (4 : Int) ∣ q.w
 h : (4 : Int) ∣ q.h
 w0 : 0 < q.w
 h0 : 0 < q.h
section
variable {z : Sz} {G : Lf → Prop} (hz : SzB z G)
include hz
mutual
theorem place4 : ∀ (t : Tree) (d x y : Int), 0 ≤ d → TreeOk G d t → (4 : Int) ∣ x → (4 : Int) ∣ y → ∀ q ∈ place z d t x y, Sq4 q
 | .leaf f, d, x, y, h0, h, hx, hy, q, hq => by
   have := hz.w0 f h.1; have := hz.w4 f h.1; have := hz.h0 f h.1; have := hz.h4 f h.1
   simp only [place, List.mem_singleton] at hq
   subst hq
   exact ⟨hx, hy, by show (4 : Int) ∣ 4 * z.w f; omega, by show (4 : Int) ∣ 4 * z.h f; omega, by show 0 < 4 * z.w f; omega, by show 0 < 4 * z.h f; omega⟩
 | .over f b, d, x, y, h0, h, hx, hy, q, hq => by
   have := hz.w0 f h.1; have := hz.w4 f h.1; have := hz.h0 f h.1; have := hz.h4 f h.1
   simp only [place, List.mem_cons, List.not_mem_nil, or_false] at hq
   rcases hq with rfl | rfl
   ·exact ⟨hx, hy, by show (4 : Int) ∣ 4 * z.w f; omega, by show (4 : Int) ∣ 4 * z.h f; omega, by show 0 < 4 * z.w f; omega, by show 0 < 4 * z.h f; omega⟩
   ·exact ⟨by show (4 : Int) ∣ x + z.w f; omega, by show (4 : Int) ∣ y + z.h f; omega, by show (4 : Int) ∣ 2 * z.w f; omega, by show (4 : Int) ∣ 2 * z.h f; omega, by show 0 < 2 * z.w f; omega, by show 0 < 2 * z.h f; omega⟩
 | .beside ks, d, x, y, h0, h, hx, hy, q, hq => by
   have hd := h.deep
   obtain ⟨h1, h2, h3, hk⟩ := h
   obtain ⟨⟨_, _, _, _, _, a6, _⟩, _⟩ := nats_bd hz ks (d + 1) (sp d) (by omega) (by have := sp_ge hd; omega) (sp_le h0) (sp_4 d) hk
   exact placeB4 ks (d + 1) (sp d) _ x y (by omega) (sp_4 d) a6 hk hx hy q hq
 | .above ks, d, x, y, h0, h, hx, hy, q, hq => by
   have hd := h.deep
   obtain ⟨h1, h2, h3, hk⟩ := h
   obtain ⟨⟨_, _, _, _, a5, _, _⟩, _⟩ := nats_bd hz ks (d + 1) (sp d) (by omega) (by have := sp_ge hd; omega) (sp_le h0) (sp_4 d) hk
   exact placeA4 ks (d + 1) (sp d) _ x y (by omega) (sp_4 d) a5 hk hx hy q hq
theorem placeB4 : ∀ (ks : List Tree) (d s m x y : Int), 0 ≤ d → (4 : Int) ∣ s → (4 : Int) ∣ m → TreesOk G d ks → (4 : Int) ∣ x → (4 : Int) ∣ y → ∀ q ∈ placeB z s d m ks x y, Sq4 q
 | [], d, s, m, x, y, h0, hs, hm, h, hx, hy, q, hq => by simp [placeB] at hq
 | t :: r, d, s, m, x, y, h0, hs, hm, h, hx, hy, q, hq => by
   obtain ⟨a1, a2, a3, a4, a5, a6⟩ := nat_bd hz t d h0 h.1
   simp only [placeB, List.mem_append] at hq
   rcases hq with hq | hq
   ·exact place4 t d x _ h0 h.1 hx (by omega) q hq
   ·exact placeB4 r d s m _ y h0 hs hm h.2 (by omega) hy q hq
theorem placeA4 : ∀ (ks : List Tree) (d s m x y : Int), 0 ≤ d → (4 : Int) ∣ s → (4 : Int) ∣ m → TreesOk G d ks → (4 : Int) ∣ x → (4 : Int) ∣ y → ∀ q ∈ placeA z s d m ks x y, Sq4 q
 | [], d, s, m, x, y, h0, hs, hm, h, hx, hy, q, hq => by simp [placeA] at hq
 | t :: r, d, s, m, x, y, h0, hs, hm, h, hx, hy, q, hq => by
   obtain ⟨a1, a2, a3, a4, a5, a6⟩ := nat_bd hz t d h0 h.1
   simp only [placeA, List.mem_append] at hq
   rcases hq with hq | hq
   ·exact place4 t d _ y h0 h.1 (by omega) hy q hq
   ·exact placeA4 r d s m x _ h0 hs hm h.2 hx (by omega) q hq
end
end
def inW (z : Sz) (rb : Bool) (ks : List Tree) : Int := if rb then sumW z 20 1 ks - 20 else maxW z 1 ks
def inH (z : Sz) (rb : Bool) (ks : List Tree) : Int := if rb then maxH z 1 ks else sumH z 20 1 ks - 20
def grpW (z : Sz) (rb : Bool) : Grp → Int
 | .tree t => natW z 0 t
 | .ring ks => inW z rb ks + 24
 | _ => 0
def grpH (z : Sz) (rb : Bool) : Grp → Int
 | .tree t => natH z 0 t
 | .ring ks => inH z rb ks + 24
 | _ => 0
def inSq (z : Sz) (rb : Bool) (ks : List Tree) : List Sq := if rb then placeB z 20 1 (maxH z 1 ks) ks 48 48 else placeA z 20 1 (maxW z 1 ks) ks 48 48
def grpSq (z : Sz) (rb : Bool) : Grp → List Sq
 | .tree t => place z 0 t 0 0
 | .ring ks => ⟨bare 5, 0, 0, 4 * (inW z rb ks + 24), 4 * (inH z rb ks + 24)⟩ :: inSq z rb ks
 | _ => []
section
variable {z : Sz} {G : Lf → Prop} (hz : SzB z G)
include hz
theorem in_bd (rb : Bool) {ks : List Tree} (hn : ks ≠ []) (h : TreesOk G 1 ks) : 0 < inW z rb ks ∧ inW z rb ks ≤ 128 * ((flats 1 ks).length : Int) ∧ (4 : Int) ∣ inW z rb ks ∧ 0 < inH z rb ks ∧ inH z rb ks ≤ 128 * ((flats 1 ks).length : Int) ∧ (4 : Int) ∣ inH z rb ks := by
 obtain ⟨⟨a1, a2, a3, a4, a5, a6, a7, a8, a9, a10⟩, a11, a12, a13, a14⟩ := nats_bd hz ks 1 20 (by omega) (by omega) (by omega) (by omega) h
 have := a7 hn; have := a8 hn; have := a9 hn; have := a10 hn
 cases rb
 ·simp only [inW, inH, Bool.false_eq_true, if_false]
  refine ⟨by omega, by omega, by omega, by omega, by omega, by omega⟩
 ·simp only [inW, inH, if_true]
  refine ⟨by omega, by omega, by omega, by omega, by omega, by omega⟩
theorem grp_bd (rb : Bool) {g : Grp} (hp : isPlain g) (h : GrpOk G g) : 0 < grpW z rb g ∧ grpW z rb g ≤ 128 * (g.flat.length : Int) ∧ (4 : Int) ∣ grpW z rb g ∧ 0 < grpH z rb g ∧ grpH z rb g ≤ 128 * (g.flat.length : Int) ∧ (4 : Int) ∣ grpH z rb g := by
 cases g with
 | tree t =>
   obtain ⟨a1, a2, a3, a4, a5, a6⟩ := nat_bd hz t 0 (by omega) h
   simp only [grpW, grpH, Grp.flat]
   exact ⟨a1, by omega, a3, a4, by omega, a6⟩
 | hon ks => exact hp.elim
 | ring ks =>
   obtain ⟨a1, a2, a3, a4, a5, a6⟩ := in_bd hz rb (by intro e; have := h.1; rw [e] at this; simp at this) h.2.2.2
   simp only [grpW, grpH, Grp.flat, List.length_cons, Int.natCast_add]
   refine ⟨by omega, by omega, by omega, by omega, by omega, by omega⟩
 | rhon ks => exact hp.elim
theorem grp4 (rb : Bool) {g : Grp} (hp : isPlain g) (h : GrpOk G g) : ∀ q ∈ grpSq z rb g, Sq4 q := by
 cases g with
 | tree t => exact place4 hz t 0 0 0 (by omega) h (by omega) (by omega)
 | hon ks => exact hp.elim
 | ring ks =>
   obtain ⟨a1, a2, a3, a4, a5, a6⟩ := in_bd hz rb (by intro e; have := h.1; rw [e] at this; simp at this) h.2.2.2
   obtain ⟨⟨_, _, _, _, b5, b6, _⟩, _⟩ := nats_bd hz ks 1 20 (by omega) (by omega) (by omega) (by omega) h.2.2.2
   intro q hq
   simp only [grpSq, List.mem_cons] at hq
   rcases hq with rfl | hq
   ·exact ⟨by show (4 : Int) ∣ 0; omega, by show (4 : Int) ∣ 0; omega, by show (4 : Int) ∣ 4 * (inW z rb ks + 24); omega, by show (4 : Int) ∣ 4 * (inH z rb ks + 24); omega, by show 0 < 4 * (inW z rb ks + 24); omega, by show 0 < 4 * (inH z rb ks + 24); omega⟩
   ·unfold inSq at hq
    cases rb
    ·rw [if_neg (by decide)] at hq
     exact placeA4 hz ks 1 20 _ 48 48 (by omega) (by omega) b5 h.2.2.2 (by omega) (by omega) q hq
    ·rw [if_pos rfl] at hq
     exact placeB4 hz ks 1 20 _ 48 48 (by omega) (by omega) b6 h.2.2.2 (by omega) (by omega) q hq
 | rhon ks => exact hp.elim
end
def holdsQ (a b : Sq) : Prop := a.lf.kind = 1 ∧ a ≠ b ∧ a.x ≤ b.x ∧ a.y ≤ b.y ∧ b.x + b.w ≤ a.x + a.w ∧ b.y + b.h ≤ a.y + a.h
section
variable {k x0 y0 : Rat} (hk : 0 < k)
include hk
theorem cmp_aff {a b : Int} : k * (a : Rat) ≤ k * (b : Rat) ↔ a ≤ b := by
 constructor
 ·intro h
  rcases Int.lt_or_le b a with h1 | h1
  ·have := mul_lt' hk h1
   exact absurd h (by grind)
  ·exact h1
 ·exact mul_le' hk
theorem eq_aff {a b : Int} : k * (a : Rat) = k * (b : Rat) ↔ a = b := by
 constructor
 ·intro h
  have h1 := (cmp_aff hk (a := a) (b := b)).1 (by rw [h]; exact Rat.le_refl)
  have h2 := (cmp_aff hk (a := b) (b := a)).1 (by rw [h]; exact Rat.le_refl)
  omega
 ·intro h; rw [h]
theorem aff_inj {p q : Sq} : aff k x0 y0 p = aff k x0 y0 q ↔ p = q := by
 constructor
 ·intro h
  unfold aff at h
  simp only [PB.mk.injEq] at h
  obtain ⟨h1, h2, h3, h4, h5⟩ := h
  have e1 := (eq_aff hk (a := p.x) (b := q.x)).1 (by grind)
  have e2 := (eq_aff hk (a := p.y) (b := q.y)).1 (by grind)
  have e3 := (eq_aff hk).1 h4
  have e4 := (eq_aff hk).1 h5
  obtain ⟨a, b, c, d, e⟩ := p
  obtain ⟨a', b', c', d', e'⟩ := q
  simp only at h1 e1 e2 e3 e4
  subst h1 e1 e2 e3 e4
  rfl
 ·intro h; rw [h]
theorem holds_aff {p q : Sq} : holdsP (aff k x0 y0 p) (aff k x0 y0 q) = true ↔ holdsQ p q := by
 have l1 : ∀ {a b : Int} {c : Rat}, c + k * (a : Rat) ≤ c + k * (b : Rat) ↔ a ≤ b := fun {a b c} => by
  rw [← cmp_aff hk]
  constructor <;> intro h <;> grind
 have l2 : ∀ {a b a' b' : Int} {c : Rat}, c + k * (a : Rat) + k * (a' : Rat) ≤ c + k * (b : Rat) + k * (b' : Rat) ↔ a + a' ≤ b + b' := fun {a b a' b' c} => by
  rw [← cmp_aff hk, Rat.intCast_add, Rat.intCast_add]
  constructor <;> intro h <;> grind
 unfold holdsP holdsQ
 simp only [Bool.and_eq_true, decide_eq_true_eq, ne_eq, aff_inj hk]
 simp only [aff, l1, l2, and_assoc]
end
def LooseQ (z : Sz) (G : Lf → Prop) (L : List Sq) (q : Sq) : Prop := q.w = 4 * z.w q.lf ∧ G q.lf ∧ (q.lf.kind = 1 ∨ q.lf.kind = 6) ∧ ∀ a ∈ L, ¬ holdsQ a q
def ClsQ (z : Sz) (G : Lf → Prop) (L : List Sq) (q : Sq) : Prop := LooseQ z G L q ∨ ∃ a ∈ L, holdsQ a q
structure Told (z : Sz) (G : Lf → Prop) (L : List Sq) : Prop where
 all : ∀ q ∈ L, ClsQ z G L q
 one : ∃ q ∈ L, LooseQ z G L q
def ApartQ (L M : List Sq) : Prop := ∀ p ∈ L, ∀ q ∈ M, ¬ holdsQ p q ∧ ¬ holdsQ q p
theorem Told.append {z : Sz} {G : Lf → Prop} {L M : List Sq} (h : Told z G L) (k : Told z G M) (ha : ApartQ L M) : Told z G (L ++ M) where
 all q hq := by
  rcases List.mem_append.1 hq with hq | hq
  ·rcases h.all q hq with ⟨h1, h2, h3, h4⟩ | ⟨a, h1, h2⟩
   ·refine .inl ⟨h1, h2, h3, fun a hm => ?_⟩
    rcases List.mem_append.1 hm with hm | hm
    ·exact h4 a hm
    ·exact (ha q hq a hm).2
   ·exact .inr ⟨a, List.mem_append.2 (.inl h1), h2⟩
  ·rcases k.all q hq with ⟨h1, h2, h3, h4⟩ | ⟨a, h1, h2⟩
   ·refine .inl ⟨h1, h2, h3, fun a hm => ?_⟩
    rcases List.mem_append.1 hm with hm | hm
    ·exact (ha a hm q hq).1
    ·exact h4 a hm
   ·exact .inr ⟨a, List.mem_append.2 (.inr h1), h2⟩
 one := by
  obtain ⟨q, hq, h1, h2, h3, h4⟩ := h.one
  refine ⟨q, List.mem_append.2 (.inl hq), h1, h2, h3, fun a hm => ?_⟩
  rcases List.mem_append.1 hm with hm | hm
  ·exact h4 a hm
  ·exact (ha q hq a hm).2
theorem apart_x {L M : List Sq} {c : Int} (h : ∀ p ∈ L, p.x + p.w ≤ c) (k : ∀ p ∈ M, c ≤ p.x) (hp : ∀ p ∈ L, 0 < p.w) (kp : ∀ p ∈ M, 0 < p.w) : ApartQ L M := by
 intro p hpm q hq
 have := h p hpm; have := k q hq; have := hp p hpm; have := kp q hq
 unfold holdsQ
 constructor
 ·rintro ⟨_, _, _, _, h5, _⟩; omega
 ·rintro ⟨_, _, h3, _, _, _⟩; omega
theorem apart_y {L M : List Sq} {c : Int} (h : ∀ p ∈ L, p.y + p.h ≤ c) (k : ∀ p ∈ M, c ≤ p.y) (hp : ∀ p ∈ L, 0 < p.h) (kp : ∀ p ∈ M, 0 < p.h) : ApartQ L M := by
 intro p hpm q hq
 have := h p hpm; have := k q hq; have := hp p hpm; have := kp q hq
 unfold holdsQ
 constructor
 ·rintro ⟨_, _, _, _, _, h6⟩; omega
 ·rintro ⟨_, _, _, h4, _, _⟩; omega
section
variable {z : Sz} {G : Lf → Prop} (hz : SzB z G)
include hz
theorem okT {t : Tree} {d : Int} (h : TreeOk G d t) : Ok z d t := TreeOk.ok (fun f hf => ⟨hz.w0 f hf, hz.h0 f hf⟩) d t h
theorem okTs {ks : List Tree} {d : Int} (h : TreesOk G d ks) : Oks z d ks := TreesOk.ok (fun f hf => ⟨hz.w0 f hf, hz.h0 f hf⟩) d ks h
mutual
theorem told_tree : ∀ (t : Tree) (d x y : Int), 0 ≤ d → TreeOk G d t → Told z G (place z d t x y)
 | .leaf f, d, x, y, h0, h => by
   have key : LooseQ z G (place z d (.leaf f) x y) ⟨f, x, y, 4 * z.w f, 4 * z.h f⟩ := by
    refine ⟨rfl, h.1, h.2.1, fun a ha => ?_⟩
    simp only [place, List.mem_singleton] at ha
    subst ha
    exact fun h => h.2.1 rfl
   refine ⟨fun q hq => ?_, ⟨_, by simp [place], key⟩⟩
   simp only [place, List.mem_singleton] at hq
   subst hq
   exact .inl key
 | .over a b, d, x, y, h0, h => by
   obtain ⟨ga, gb, ka, kb, hd⟩ := h
   have w0 := hz.w0 a ga; have h0 := hz.h0 a ga
   have key : LooseQ z G (place z d (.over a b) x y) ⟨a, x, y, 4 * z.w a, 4 * z.h a⟩ := by
    refine ⟨rfl, ga, .inl ka, fun c hc => ?_⟩
    simp only [place, List.mem_cons, List.not_mem_nil, or_false] at hc
    rcases hc with rfl | rfl
    ·exact fun h => h.2.1 rfl
    ·rintro ⟨_, _, h3, _⟩
     simp only at h3
     omega
   refine ⟨fun q hq => ?_, ⟨_, by simp [place], key⟩⟩
   simp only [place, List.mem_cons, List.not_mem_nil, or_false] at hq
   rcases hq with rfl | rfl
   ·exact .inl key
   ·refine .inr ⟨⟨a, x, y, 4 * z.w a, 4 * z.h a⟩, by simp [place], ka, ?_, ?_, ?_, ?_, ?_⟩
    ·intro e
     have := congrArg Sq.x e
     simp only at this
     omega
    ·simp only; omega
    ·simp only; omega
    ·simp only; omega
    ·simp only; omega
 | .beside ks, d, x, y, h0, h => by
   have hn : ks ≠ [] := by intro e; have := h.1; rw [e] at this; simp at this
   have hs := sp_ge (TreeOk.deep (t := .beside ks) h)
   exact told_B ks (d + 1) (sp d) (maxH z (d + 1) ks) x y (by omega) (by omega) h.2.2.2 hn
 | .above ks, d, x, y, h0, h => by
   have hn : ks ≠ [] := by intro e; have := h.1; rw [e] at this; simp at this
   have hs := sp_ge (TreeOk.deep (t := .above ks) h)
   exact told_A ks (d + 1) (sp d) (maxW z (d + 1) ks) x y (by omega) (by omega) h.2.2.2 hn
theorem told_B : ∀ (ks : List Tree) (d s m x y : Int), 0 ≤ d → 0 ≤ s → TreesOk G d ks → ks ≠ [] → Told z G (placeB z s d m ks x y)
 | [], _, _, _, _, _, _, _, _, hn => absurd rfl hn
 | [t], d, s, m, x, y, h0, hs, h, _ => by
   rw [placeB, placeB, List.append_nil]
   exact told_tree t d x _ h0 h.1
 | t :: u :: r, d, s, m, x, y, h0, hs, h, _ => by
   have h1 := told_tree t d x (y + 2 * (m - natH z d t)) h0 h.1
   have h2 := told_B (u :: r) d s m (x + 4 * (natW z d t + s)) y h0 hs h.2 (by simp)
   rw [placeB]
   refine h1.append h2 ?_
   have g1 := geo z t d x (y + 2 * (m - natH z d t)) (okT hz h.1)
   refine apart_x (c := x + 4 * natW z d t) (fun p hp => by have := g1.dx.high _ (List.mem_map.2 ⟨p, hp, rfl⟩); simpa [Sq.px] using this) (fun p hp => ?_) (fun p hp => by have := g1.dx.pos _ (List.mem_map.2 ⟨p, hp, rfl⟩); simp only [Sq.px] at this; omega) (fun p hp => ?_)
   ·have := lowB (u :: r) d s m (x + 4 * (natW z d t + s)) y h0 hs h.2 p hp
    omega
   ·exact (lowB (u :: r) d s m (x + 4 * (natW z d t + s)) y h0 hs h.2 p hp).2
theorem told_A : ∀ (ks : List Tree) (d s m x y : Int), 0 ≤ d → 0 ≤ s → TreesOk G d ks → ks ≠ [] → Told z G (placeA z s d m ks x y)
 | [], _, _, _, _, _, _, _, _, hn => absurd rfl hn
 | [t], d, s, m, x, y, h0, hs, h, _ => by
   rw [placeA, placeA, List.append_nil]
   exact told_tree t d _ y h0 h.1
 | t :: u :: r, d, s, m, x, y, h0, hs, h, _ => by
   have h1 := told_tree t d (x + 2 * (m - natW z d t)) y h0 h.1
   have h2 := told_A (u :: r) d s m x (y + 4 * (natH z d t + s)) h0 hs h.2 (by simp)
   rw [placeA]
   refine h1.append h2 ?_
   have g1 := geo z t d (x + 2 * (m - natW z d t)) y (okT hz h.1)
   refine apart_y (c := y + 4 * natH z d t) (fun p hp => by have := g1.dy.high _ (List.mem_map.2 ⟨p, hp, rfl⟩); simpa [Sq.py] using this) (fun p hp => ?_) (fun p hp => by have := g1.dy.pos _ (List.mem_map.2 ⟨p, hp, rfl⟩); simp only [Sq.py] at this; omega) (fun p hp => ?_)
   ·have := lowA (u :: r) d s m x (y + 4 * (natH z d t + s)) h0 hs h.2 p hp
    omega
   ·exact (lowA (u :: r) d s m x (y + 4 * (natH z d t + s)) h0 hs h.2 p hp).2
theorem lowB : ∀ (ks : List Tree) (d s m x y : Int), 0 ≤ d → 0 ≤ s → TreesOk G d ks → ∀ p ∈ placeB z s d m ks x y, x ≤ p.x ∧ 0 < p.w
 | [], _, _, _, _, _, _, _, _, p, hp => by simp [placeB] at hp
 | t :: r, d, s, m, x, y, h0, hs, h, p, hp => by
   have g1 := geo z t d x (y + 2 * (m - natH z d t)) (okT hz h.1)
   simp only [placeB, List.mem_append] at hp
   rcases hp with hp | hp
   ·have a := g1.dx.low _ (List.mem_map.2 ⟨p, hp, rfl⟩)
    have b := g1.dx.pos _ (List.mem_map.2 ⟨p, hp, rfl⟩)
    simp only [Sq.px] at a b
    omega
   ·have := lowB r d s m _ y h0 hs h.2 p hp
    have := g1.w
    omega
theorem lowA : ∀ (ks : List Tree) (d s m x y : Int), 0 ≤ d → 0 ≤ s → TreesOk G d ks → ∀ p ∈ placeA z s d m ks x y, y ≤ p.y ∧ 0 < p.h
 | [], _, _, _, _, _, _, _, _, p, hp => by simp [placeA] at hp
 | t :: r, d, s, m, x, y, h0, hs, h, p, hp => by
   have g1 := geo z t d (x + 2 * (m - natW z d t)) y (okT hz h.1)
   simp only [placeA, List.mem_append] at hp
   rcases hp with hp | hp
   ·have a := g1.dy.low _ (List.mem_map.2 ⟨p, hp, rfl⟩)
    have b := g1.dy.pos _ (List.mem_map.2 ⟨p, hp, rfl⟩)
    simp only [Sq.py] at a b
    omega
   ·have := lowA r d s m x _ h0 hs h.2 p hp
    have := g1.h
    omega
end
end
mutual
theorem flatR_inj : ∀ (r r' : Rose) (d : Int) (X X' : List Nd), Stop d X → Stop d X' → flatR d r ++ X = flatR d r' ++ X' → r = r' ∧ X = X'
 | .mk f ks, .mk f' ks', d, X, X', h, h', e => by
   simp only [flatR, List.cons_append, List.cons.injEq, Nd.mk.injEq, and_true] at e
   obtain ⟨e1, e2⟩ := e
   obtain ⟨e3, e4⟩ := flatRs_inj ks ks' (d + 1) X X' (by rwa [Int.add_sub_cancel]) (by rwa [Int.add_sub_cancel]) e2
   rw [e1, e3]
   exact ⟨rfl, e4⟩
theorem flatRs_inj : ∀ (ks ks' : List Rose) (d : Int) (X X' : List Nd), Stop (d - 1) X → Stop (d - 1) X' → flatRs d ks ++ X = flatRs d ks' ++ X' → ks = ks' ∧ X = X'
 | [], [], d, X, X', h, h', e => ⟨rfl, by simpa [flatRs] using e⟩
 | [], r' :: rs', d, X, X', h, h', e => by
   exfalso
   obtain ⟨f', ks'⟩ := r'
   simp only [flatRs, flatR, List.nil_append, List.cons_append] at e
   have := h ⟨f', d⟩ (by rw [e]; rfl)
   simp only at this
   omega
 | r :: rs, [], d, X, X', h, h', e => by
   exfalso
   obtain ⟨f, ks⟩ := r
   simp only [flatRs, flatR, List.nil_append, List.cons_append] at e
   have := h' ⟨f, d⟩ (by rw [← e]; rfl)
   simp only at this
   omega
 | r :: rs, r' :: rs', d, X, X', h, h', e => by
   simp only [flatRs, List.append_assoc] at e
   obtain ⟨e1, e2⟩ := flatR_inj r r' d (flatRs d rs ++ X) (flatRs d rs' ++ X') (stop_flatRs d rs X (h.mono (by omega))) (stop_flatRs d rs' X' (h'.mono (by omega))) e
   obtain ⟨e3, e4⟩ := flatRs_inj rs rs' d X X' h h' e2
   rw [e1, e3]
   exact ⟨rfl, e4⟩
end
section
variable {G G' : Lf → Prop}
mutual
theorem roseT_inj : ∀ (t t' : Tree) (d d' : Int), TreeOk G d t → TreeOk G' d' t' → roseT t = roseT t' → t = t'
 | .leaf f, .leaf f', _, _, h, h', e => by simp only [roseT, Rose.mk.injEq] at e; rw [e.1]
 | .leaf f, .over a b, _, _, h, h', e => by simp only [roseT, Rose.mk.injEq] at e; cases e.2
 | .leaf f, .beside ks, _, _, h, h', e => by
   simp only [roseT, Rose.mk.injEq] at e
   have h2 := h.2.1
   rw [e.1] at h2
   rcases h2 with h2 | h2 <;> cases h2
 | .leaf f, .above ks, _, _, h, h', e => by
   simp only [roseT, Rose.mk.injEq] at e
   have h2 := h.2.1
   rw [e.1] at h2
   rcases h2 with h2 | h2 <;> cases h2
 | .over a b, .leaf f, _, _, h, h', e => by simp only [roseT, Rose.mk.injEq] at e; cases e.2
 | .over a b, .over a' b', _, _, h, h', e => by
   simp only [roseT, Rose.mk.injEq, List.cons.injEq, and_true, true_and] at e
   rw [e.1, e.2]
 | .over a b, .beside ks, _, _, h, h', e => by simp only [roseT, Rose.mk.injEq] at e; cases e.1
 | .over a b, .above ks, _, _, h, h', e => by simp only [roseT, Rose.mk.injEq] at e; cases e.1
 | .beside ks, .leaf f, _, _, h, h', e => by
   simp only [roseT, Rose.mk.injEq] at e
   have h2 := h'.2.1
   rw [← e.1] at h2
   rcases h2 with h2 | h2 <;> cases h2
 | .beside ks, .over a b, _, _, h, h', e => by simp only [roseT, Rose.mk.injEq] at e; cases e.1
 | .beside ks, .beside ks', d, d', h, h', e => by
   simp only [roseT, Rose.mk.injEq, true_and] at e
   rw [rosesT_inj ks ks' (d + 1) (d' + 1) h.2.2.2 h'.2.2.2 e]
 | .beside ks, .above ks', _, _, h, h', e => by simp only [roseT, Rose.mk.injEq] at e; cases e.1
 | .above ks, .leaf f, _, _, h, h', e => by
   simp only [roseT, Rose.mk.injEq] at e
   have h2 := h'.2.1
   rw [← e.1] at h2
   rcases h2 with h2 | h2 <;> cases h2
 | .above ks, .over a b, _, _, h, h', e => by simp only [roseT, Rose.mk.injEq] at e; cases e.1
 | .above ks, .beside ks', _, _, h, h', e => by simp only [roseT, Rose.mk.injEq] at e; cases e.1
 | .above ks, .above ks', d, d', h, h', e => by
   simp only [roseT, Rose.mk.injEq, true_and] at e
   rw [rosesT_inj ks ks' (d + 1) (d' + 1) h.2.2.2 h'.2.2.2 e]
theorem rosesT_inj : ∀ (ks ks' : List Tree) (d d' : Int), TreesOk G d ks → TreesOk G' d' ks' → rosesT ks = rosesT ks' → ks = ks'
 | [], [], _, _, _, _, _ => rfl
 | [], _ :: _, _, _, _, _, e => by simp [rosesT] at e
 | _ :: _, [], _, _, _, _, e => by simp [rosesT] at e
 | t :: r, t' :: r', d, d', h, h', e => by
   simp only [rosesT, List.cons.injEq] at e
   rw [roseT_inj t t' d d' h.1 h'.1 e.1, rosesT_inj r r' d d' h.2 h'.2 e.2]
end
theorem roseG_inj {g g' : Grp} (hp : isPlain g) (hp' : isPlain g') (h : GrpOk G g) (h' : GrpOk G' g') (e : g.rose = g'.rose) : g = g' := by
 cases g with
 | tree t =>
   cases g' with
   | tree t' => rw [roseT_inj t t' 0 0 h h' e]
   | ring ks =>
     have h1 := (kind_rose h).1
     have e' : roseT t = .mk (bare 5) (rosesT ks) := e
     rw [e'] at h1
     exact absurd rfl h1
   | hon ks => exact hp'.elim
   | rhon ks => exact hp'.elim
 | ring ks =>
   cases g' with
   | tree t' =>
     have h1 := (kind_rose h').1
     have e' : Rose.mk (bare 5) (rosesT ks) = roseT t' := e
     rw [← e'] at h1
     exact absurd rfl h1
   | ring ks' =>
     have e' : Rose.mk (bare 5) (rosesT ks) = Rose.mk (bare 5) (rosesT ks') := e
     simp only [Rose.mk.injEq, true_and] at e'
     rw [rosesT_inj ks ks' 1 1 h.2.2.2 h'.2.2.2 e']
   | hon ks => exact hp'.elim
   | rhon ks => exact hp'.elim
 | hon ks => exact hp.elim
 | rhon ks => exact hp.elim
theorem rosesG_inj : ∀ {gs gs' : List Grp}, (∀ g ∈ gs, isPlain g ∧ GrpOk G g) → (∀ g ∈ gs', isPlain g ∧ GrpOk G' g) → rosesG gs = rosesG gs' → gs = gs'
 | [], [], _, _, _ => rfl
 | [], _ :: _, _, _, e => by simp [rosesG] at e
 | _ :: _, [], _, _, e => by simp [rosesG] at e
 | g :: r, g' :: r', h, h', e => by
   simp only [rosesG, List.cons.injEq] at e
   rw [roseG_inj (h g (by simp)).1 (h' g' (by simp)).1 (h g (by simp)).2 (h' g' (by simp)).2 e.1, rosesG_inj (fun x hx => h x (by simp [hx])) (fun x hx => h' x (by simp [hx])) e.2]
theorem flatG_inj {gs gs' : List Grp} (h : ∀ g ∈ gs, isPlain g ∧ GrpOk G g) (h' : ∀ g ∈ gs', isPlain g ∧ GrpOk G' g) (e : flatG gs = flatG gs') : gs = gs' := by
 rw [← flats_roseG, ← flats_roseG] at e
 have nil : Stop (0 - 1) [] := fun n hn => by simp at hn
 exact rosesG_inj h h' (flatRs_inj _ _ 0 [] [] nil nil (by simpa using e)).1
end
end OG
