set_option linter.all false
namespace OG
structure Lf where
 kind : Int
 sign : Int
 turn : Int
 mirror : Bool
 state : Int
 mn : Int
 mx : Int
deriving DecidableEq, Repr, Inhabited
structure Nd where
 lf : Lf
 depth : Int
deriving DecidableEq, Repr, Inhabited
def bare (k : Int) : Lf := ⟨k, 0, 0, false, 0, 0, 0⟩
inductive Tree where
 | leaf (l : Lf)
 | over (a b : Lf)
 | beside (ks : List Tree)
 | above (ks : List Tree)
def sp (d : Int) : Int := 4 * (5 - d)
mutual
def flat (d : Int) : Tree → List Nd
 | .leaf l => [⟨l, d⟩]
 | .over a b => [⟨bare 4, d⟩, ⟨a, d + 1⟩, ⟨b, d + 1⟩]
 | .beside ks => ⟨bare 2, d⟩ :: flats (d + 1) ks
 | .above ks => ⟨bare 3, d⟩ :: flats (d + 1) ks
def flats (d : Int) : List Tree → List Nd
 | [] => []
 | t :: r => flat d t ++ flats d r
end
structure Sz where
 w : Lf → Int
 h : Lf → Int
mutual
def natW (z : Sz) (d : Int) : Tree → Int
 | .leaf l => z.w l
 | .over a _ => z.w a
 | .beside ks => sumW z (sp d) (d + 1) ks - sp d
 | .above ks => maxW z (d + 1) ks
def sumW (z : Sz) (s d : Int) : List Tree → Int
 | [] => 0
 | t :: r => natW z d t + s + sumW z s d r
def maxW (z : Sz) (d : Int) : List Tree → Int
 | [] => 0
 | t :: r => max (natW z d t) (maxW z d r)
end
mutual
def natH (z : Sz) (d : Int) : Tree → Int
 | .leaf l => z.h l
 | .over a _ => z.h a
 | .beside ks => maxH z (d + 1) ks
 | .above ks => sumH z (sp d) (d + 1) ks - sp d
def sumH (z : Sz) (s d : Int) : List Tree → Int
 | [] => 0
 | t :: r => natH z d t + s + sumH z s d r
def maxH (z : Sz) (d : Int) : List Tree → Int
 | [] => 0
 | t :: r => max (natH z d t) (maxH z d r)
end
structure Sq where
 lf : Lf
 x : Int
 y : Int
 w : Int
 h : Int
deriving DecidableEq, Repr, Inhabited
mutual
def place (z : Sz) (d : Int) : Tree → Int → Int → List Sq
 | .leaf l, x, y => [⟨l, x, y, 4 * z.w l, 4 * z.h l⟩]
 | .over a b, x, y => [⟨a, x, y, 4 * z.w a, 4 * z.h a⟩, ⟨b, x + z.w a, y + z.h a, 2 * z.w a, 2 * z.h a⟩]
 | .beside ks, x, y => placeB z (sp d) (d + 1) (maxH z (d + 1) ks) ks x y
 | .above ks, x, y => placeA z (sp d) (d + 1) (maxW z (d + 1) ks) ks x y
def placeB (z : Sz) (s d m : Int) : List Tree → Int → Int → List Sq
 | [], _, _ => []
 | t :: r, x, y => place z d t x (y + 2 * (m - natH z d t)) ++ placeB z s d m r (x + 4 * (natW z d t + s)) y
def placeA (z : Sz) (s d m : Int) : List Tree → Int → Int → List Sq
 | [], _, _ => []
 | t :: r, x, y => place z d t (x + 2 * (m - natW z d t)) y ++ placeA z s d m r x (y + 4 * (natH z d t + s))
end
mutual
def Ok (z : Sz) (d : Int) : Tree → Prop
 | .leaf l => 0 < z.w l ∧ 0 < z.h l ∧ d ≤ 4
 | .over a _ => 0 < z.w a ∧ 0 < z.h a ∧ d ≤ 3
 | .beside ks => ks ≠ [] ∧ Oks z (d + 1) ks
 | .above ks => ks ≠ [] ∧ Oks z (d + 1) ks
def Oks (z : Sz) (d : Int) : List Tree → Prop
 | [] => True
 | t :: r => Ok z d t ∧ Oks z d r
end
structure Dense (I : List (Int × Int)) (lo hi g : Int) : Prop where
 pos : ∀ p ∈ I, p.1 < p.2
 low : ∀ p ∈ I, lo ≤ p.1
 high : ∀ p ∈ I, p.2 ≤ hi
 first : ∃ p ∈ I, p.1 = lo
 next : ∀ c, lo ≤ c → c < hi → ∃ p ∈ I, p.1 ≤ c + g ∧ c < p.2
def Sq.px (q : Sq) : Int × Int := (q.x, q.x + q.w)
def Sq.py (q : Sq) : Int × Int := (q.y, q.y + q.h)
theorem Dense.mono {I : List (Int × Int)} {lo hi g g' : Int} (h : Dense I lo hi g) (hg : g ≤ g') : Dense I lo hi g' :=
 ⟨h.pos, h.low, h.high, h.first, fun c h1 h2 => by
   obtain ⟨p, hp, h3, h4⟩ := h.next c h1 h2
   exact ⟨p, hp, by omega, h4⟩⟩
theorem Dense.one {a b g : Int} (h : a < b) (hg : 0 ≤ g) : Dense [(a, b)] a b g :=
 ⟨by simp [h], by simp, by simp, by simp, fun c h1 h2 => ⟨(a, b), by simp, by simp; omega, by simpa using h2⟩⟩
theorem Dense.append {I J : List (Int × Int)} {lo hi lo' hi' g : Int} (h : Dense I lo hi g) (k : Dense J lo' hi' g) (h1 : hi ≤ lo') (h2 : lo' ≤ hi + g) (h3 : lo ≤ hi) (h4 : lo' < hi') :
 Dense (I ++ J) lo hi' g where
 pos p hp := (List.mem_append.1 hp).elim (h.pos p) (k.pos p)
 low p hp := by
  rcases List.mem_append.1 hp with hp | hp
  ·exact h.low p hp
  ·have := k.low p hp; omega
 high p hp := by
  rcases List.mem_append.1 hp with hp | hp
  ·have := h.high p hp; omega
  ·exact k.high p hp
 first := by obtain ⟨p, hp, e⟩ := h.first; exact ⟨p, List.mem_append.2 (.inl hp), e⟩
 next c hc1 hc2 := by
  by_cases hc : c < hi
  ·obtain ⟨p, hp, e⟩ := h.next c hc1 hc; exact ⟨p, List.mem_append.2 (.inl hp), e⟩
  ·by_cases hc' : lo' ≤ c
   ·obtain ⟨p, hp, e⟩ := k.next c hc' hc2; exact ⟨p, List.mem_append.2 (.inr hp), e⟩
   ·obtain ⟨p, hp, e⟩ := k.first
    have := k.pos p hp
    exact ⟨p, List.mem_append.2 (.inr hp), by omega, by omega⟩
theorem Dense.with {I J : List (Int × Int)} {lo hi g : Int} (h : Dense I lo hi g) (hp : ∀ p ∈ J, p.1 < p.2) (hl : ∀ p ∈ J, lo ≤ p.1) (hh : ∀ p ∈ J, p.2 ≤ hi) : Dense (I ++ J) lo hi g where
 pos p hp' := (List.mem_append.1 hp').elim (h.pos p) (hp p)
 low p hp' := (List.mem_append.1 hp').elim (h.low p) (hl p)
 high p hp' := (List.mem_append.1 hp').elim (h.high p) (hh p)
 first := by obtain ⟨p, hp, e⟩ := h.first; exact ⟨p, List.mem_append.2 (.inl hp), e⟩
 next c h1 h2 := by obtain ⟨p, hp, e⟩ := h.next c h1 h2; exact ⟨p, List.mem_append.2 (.inl hp), e⟩
theorem Dense.comm {I J : List (Int × Int)} {lo hi g : Int} (h : Dense (I ++ J) lo hi g) : Dense (J ++ I) lo hi g :=
 have e : ∀ p, p ∈ J ++ I ↔ p ∈ I ++ J := fun p => by simp [List.mem_append, Or.comm]
 ⟨fun p hp => h.pos p ((e p).1 hp), fun p hp => h.low p ((e p).1 hp), fun p hp => h.high p ((e p).1 hp), by obtain ⟨p, hp, q⟩ := h.first; exact ⟨p, (e p).2 hp, q⟩,
   fun c h1 h2 => by obtain ⟨p, hp, q⟩ := h.next c h1 h2; exact ⟨p, (e p).2 hp, q⟩⟩
structure Within (I : List (Int × Int)) (lo hi : Int) : Prop where
 pos : ∀ p ∈ I, p.1 < p.2
 low : ∀ p ∈ I, lo ≤ p.1
 high : ∀ p ∈ I, p.2 ≤ hi
theorem Dense.within {I : List (Int × Int)} {lo hi g : Int} (h : Dense I lo hi g) : Within I lo hi := ⟨h.pos, h.low, h.high⟩
theorem Within.mono {I : List (Int × Int)} {lo hi lo' hi' : Int} (h : Within I lo hi) (h1 : lo' ≤ lo) (h2 : hi ≤ hi') : Within I lo' hi' :=
 ⟨h.pos, fun p hp => by have := h.low p hp; omega, fun p hp => by have := h.high p hp; omega⟩
theorem Within.nil (lo hi : Int) : Within [] lo hi := ⟨by simp, by simp, by simp⟩
theorem Within.append {I J : List (Int × Int)} {lo hi : Int} (h : Within I lo hi) (k : Within J lo hi) : Within (I ++ J) lo hi :=
 ⟨fun p hp => (List.mem_append.1 hp).elim (h.pos p) (k.pos p),
  fun p hp => (List.mem_append.1 hp).elim (h.low p) (k.low p),
  fun p hp => (List.mem_append.1 hp).elim (h.high p) (k.high p)⟩
theorem Dense.withW {I J : List (Int × Int)} {lo hi g : Int} (h : Dense I lo hi g) (k : Within J lo hi) : Dense (I ++ J) lo hi g := h.with k.pos k.low k.high
def gx (d : Int) : Tree → Int
 | .beside _ => sp d
 | _ => sp (d + 1)
def gy (d : Int) : Tree → Int
 | .above _ => sp d
 | _ => sp (d + 1)
theorem gx_le (d : Int) (t : Tree) : gx d t ≤ sp d := by cases t <;> simp [gx, sp] <;> omega
theorem gy_le (d : Int) (t : Tree) : gy d t ≤ sp d := by cases t <;> simp [gy, sp] <;> omega
theorem Ok.deep {z : Sz} : {d : Int} → {t : Tree} → Ok z d t → d ≤ 4
 | _, .leaf _, h => h.2.2
 | _, .over _ _, h => by have := h.2.2; omega
 | d, .beside [], h => absurd rfl h.1
 | d, .beside (t :: r), h => by have := Ok.deep (z := z) (t := t) h.2.1; omega
 | d, .above [], h => absurd rfl h.1
 | d, .above (t :: r), h => by have := Ok.deep (z := z) (t := t) h.2.1; omega
structure Geo (z : Sz) (d : Int) (t : Tree) (x y : Int) : Prop where
 w : 0 < natW z d t
 h : 0 < natH z d t
 dx : Dense ((place z d t x y).map Sq.px) x (x + 4 * natW z d t) (4 * gx d t)
 dy : Dense ((place z d t x y).map Sq.py) y (y + 4 * natH z d t) (4 * gy d t)
mutual
theorem geo (z : Sz) : (t : Tree) → (d x y : Int) → Ok z d t → Geo z d t x y
 | .leaf l, d, x, y, h => by
   obtain ⟨hw, hh, hd⟩ := h
   refine ⟨by simpa [natW] using hw, by simpa [natH] using hh, ?_, ?_⟩
   ·simp only [place, List.map_cons, List.map_nil, Sq.px, natW, gx, sp]
    exact Dense.one (by omega) (by omega)
   ·simp only [place, List.map_cons, List.map_nil, Sq.py, natH, gy, sp]
    exact Dense.one (by omega) (by omega)
 | .over a b, d, x, y, h => by
   obtain ⟨hw, hh, hd⟩ := h
   refine ⟨by simpa [natW] using hw, by simpa [natH] using hh, ?_, ?_⟩
   ·simp only [place, List.map_cons, List.map_nil, Sq.px, natW, gx, sp]
    exact Dense.withW (I := [_]) (J := [_]) (Dense.one (by omega) (by omega)) ⟨by simp; omega, by simp; omega, by simp; omega⟩
   ·simp only [place, List.map_cons, List.map_nil, Sq.py, natH, gy, sp]
    exact Dense.withW (I := [_]) (J := [_]) (Dense.one (by omega) (by omega)) ⟨by simp; omega, by simp; omega, by simp; omega⟩
 | .beside ks, d, x, y, h => by
   obtain ⟨hn, hk⟩ := h
   obtain ⟨h1, h2, h3, h4, h5⟩ := geoB z ks (d + 1) (sp d) (maxH z (d + 1) ks) x y hk hn (by simp [sp]; omega) (Int.le_refl _)
   exact ⟨h1, h2, h3, h5 rfl⟩
 | .above ks, d, x, y, h => by
   obtain ⟨hn, hk⟩ := h
   obtain ⟨h1, h2, h3, h4, h5⟩ := geoA z ks (d + 1) (sp d) (maxW z (d + 1) ks) x y hk hn (by simp [sp]; omega) (Int.le_refl _)
   exact ⟨h2, h1, h5 rfl, h3⟩
theorem geoB (z : Sz) : (ks : List Tree) → (d s m x y : Int) → Oks z d ks → ks ≠ [] → sp d ≤ s → maxH z d ks ≤ m →
 0 < sumW z s d ks - s ∧ 0 < maxH z d ks ∧ Dense ((placeB z s d m ks x y).map Sq.px) x (x + 4 * (sumW z s d ks - s)) (4 * s) ∧
 Within ((placeB z s d m ks x y).map Sq.py) y (y + 4 * m) ∧ (maxH z d ks = m → Dense ((placeB z s d m ks x y).map Sq.py) y (y + 4 * m) (4 * sp d))
 | [], _, _, _, _, _, _, hn, _, _ => absurd rfl hn
 | [t], d, s, m, x, y, h, _, hs, hm => by
   have g := geo z t d x (y + 2 * (m - natH z d t)) h.1
   obtain ⟨g1, g2, g3, g4⟩ := g
   have e1 := gx_le d t
   have e2 := gy_le d t
   simp only [maxH] at hm
   simp only [sumW, maxH, placeB, List.append_nil]
   refine ⟨by omega, by omega, ?_, g4.within.mono (by omega) (by omega), fun he => ?_⟩
   ·have e : x + 4 * (natW z d t + s + 0 - s) = x + 4 * natW z d t := by omega
    rw [e]; exact g3.mono (by omega)
   ·have e : natH z d t = m := by omega
    rw [e] at g4 ⊢
    have e0 : y + 2 * (m - m) = y := by omega
    rw [e0] at g4 ⊢
    exact g4.mono (by omega)
 | t :: u :: r, d, s, m, x, y, h, _, hs, hm => by
   have g := geo z t d x (y + 2 * (m - natH z d t)) h.1
   obtain ⟨g1, g2, g3, g4⟩ := g
   have e1 := gx_le d t
   have e2 := gy_le d t
   have hm' : natH z d t ≤ m ∧ maxH z d (u :: r) ≤ m := by rw [maxH] at hm; omega
   obtain ⟨k1, k2, k3, k4, k5⟩ := geoB z (u :: r) d s m (x + 4 * (natW z d t + s)) y h.2 (by simp) hs hm'.2
   have hd := h.1.deep
   have hsp : 4 ≤ sp d := by simp [sp]; omega
   rw [sumW, maxH, placeB, List.map_append, List.map_append]
   have w4 := g4.within.mono (lo' := y) (hi' := y + 4 * m) (by omega) (by omega)
   refine ⟨by omega, by omega, ?_, w4.append k4, fun he => ?_⟩
   ·have e : x + 4 * (natW z d t + s + sumW z s d (u :: r) - s) = x + 4 * (natW z d t + s) + 4 * (sumW z s d (u :: r) - s) := by omega
    rw [e]
    exact (g3.mono (by omega)).append k3 (by omega) (by omega) (by omega) (by omega)
   ·rcases Int.lt_or_le (natH z d t) (maxH z d (u :: r)) with hc | hc
    ·exact ((k5 (by omega)).withW w4).comm
    ·have e : natH z d t = m := by omega
     have e0 : y + 2 * (m - m) = y := by omega
     rw [e, e0] at g4 ⊢
     exact (g4.mono (by omega)).withW k4
theorem geoA (z : Sz) : (ks : List Tree) → (d s m x y : Int) → Oks z d ks → ks ≠ [] → sp d ≤ s → maxW z d ks ≤ m →
 0 < sumH z s d ks - s ∧ 0 < maxW z d ks ∧ Dense ((placeA z s d m ks x y).map Sq.py) y (y + 4 * (sumH z s d ks - s)) (4 * s) ∧
 Within ((placeA z s d m ks x y).map Sq.px) x (x + 4 * m) ∧ (maxW z d ks = m → Dense ((placeA z s d m ks x y).map Sq.px) x (x + 4 * m) (4 * sp d))
 | [], _, _, _, _, _, _, hn, _, _ => absurd rfl hn
 | [t], d, s, m, x, y, h, _, hs, hm => by
   have g := geo z t d (x + 2 * (m - natW z d t)) y h.1
   obtain ⟨g1, g2, g3, g4⟩ := g
   have e1 := gx_le d t
   have e2 := gy_le d t
   simp only [maxW] at hm
   simp only [sumH, maxW, placeA, List.append_nil]
   refine ⟨by omega, by omega, ?_, g3.within.mono (by omega) (by omega), fun he => ?_⟩
   ·have e : y + 4 * (natH z d t + s + 0 - s) = y + 4 * natH z d t := by omega
    rw [e]; exact g4.mono (by omega)
   ·have e : natW z d t = m := by omega
    rw [e] at g3 ⊢
    have e0 : x + 2 * (m - m) = x := by omega
    rw [e0] at g3 ⊢
    exact g3.mono (by omega)
 | t :: u :: r, d, s, m, x, y, h, _, hs, hm => by
   have g := geo z t d (x + 2 * (m - natW z d t)) y h.1
   obtain ⟨g1, g2, g3, g4⟩ := g
   have e1 := gx_le d t
   have e2 := gy_le d t
   have hm' : natW z d t ≤ m ∧ maxW z d (u :: r) ≤ m := by rw [maxW] at hm; omega
   obtain ⟨k1, k2, k3, k4, k5⟩ := geoA z (u :: r) d s m x (y + 4 * (natH z d t + s)) h.2 (by simp) hs hm'.2
   have hd := h.1.deep
   have hsp : 4 ≤ sp d := by simp [sp]; omega
   rw [sumH, maxW, placeA, List.map_append, List.map_append]
   have w4 := g3.within.mono (lo' := x) (hi' := x + 4 * m) (by omega) (by omega)
   refine ⟨by omega, by omega, ?_, w4.append k4, fun he => ?_⟩
   ·have e : y + 4 * (natH z d t + s + sumH z s d (u :: r) - s) = y + 4 * (natH z d t + s) + 4 * (sumH z s d (u :: r) - s) := by omega
    rw [e]
    exact (g4.mono (by omega)).append k3 (by omega) (by omega) (by omega) (by omega)
   ·rcases Int.lt_or_le (natW z d t) (maxW z d (u :: r)) with hc | hc
    ·exact ((k5 (by omega)).withW w4).comm
    ·have e : natW z d t = m := by omega
     have e0 : x + 2 * (m - m) = x := by omega
     rw [e, e0] at g3 ⊢
     exact (g3.mono (by omega)).withW k4
end
structure PB where
 lf : Lf
 x : Rat
 y : Rat
 w : Rat
 h : Rat
deriving DecidableEq
def aff (k x0 y0 : Rat) (q : Sq) : PB := ⟨q.lf, x0 + k * (q.x : Rat), y0 + k * (q.y : Rat), k * (q.w : Rat), k * (q.h : Rat)⟩
def fr (ac : Bool) (b : PB) : Rat := if ac then b.x else b.y
def ex (ac : Bool) (b : PB) : Rat := if ac then b.w else b.h
def to (ac : Bool) (b : PB) : Rat := fr ac b + ex ac b
def most (a b : Rat) : Rat := if a < b then b else a
def scanGo (ac : Bool) (apart : Rat → Bool) (e : Rat) (cur : List PB) : List PB → List (List PB)
 | [] => [cur]
 | b :: r => if apart (fr ac b - e) then cur :: scanGo ac apart (to ac b) [b] r else scanGo ac apart (most e (to ac b)) (cur ++ [b]) r
def scan (ac : Bool) (apart : Rat → Bool) : List PB → List (List PB)
 | [] => []
 | b :: r => scanGo ac apart (to ac b) [b] r
def Sorted (ac : Bool) (l : List PB) : Prop := l.Pairwise fun a b => fr ac a ≤ fr ac b
structure DenseR (ac : Bool) (L : List PB) (lo hi g : Rat) : Prop where
 pos : ∀ b ∈ L, fr ac b < to ac b
 low : ∀ b ∈ L, lo ≤ fr ac b
 high : ∀ b ∈ L, to ac b ≤ hi
 first : ∃ b ∈ L, fr ac b = lo
 next : ∀ b ∈ L, to ac b < hi → ∃ c ∈ L, fr ac c ≤ to ac b + g ∧ to ac b < to ac c
 gap : 0 ≤ g
theorem DenseR.perm {ac : Bool} {L M : List PB} {lo hi g : Rat} (h : DenseR ac L lo hi g) (p : M.Perm L) : DenseR ac M lo hi g where
 pos b hb := h.pos b (p.mem_iff.1 hb)
 low b hb := h.low b (p.mem_iff.1 hb)
 high b hb := h.high b (p.mem_iff.1 hb)
 first := by obtain ⟨b, hb, e⟩ := h.first; exact ⟨b, p.mem_iff.2 hb, e⟩
 next b hb he := by obtain ⟨c, hc, e⟩ := h.next b (p.mem_iff.1 hb) he; exact ⟨c, p.mem_iff.2 hc, e⟩
 gap := h.gap
theorem scanIn {ac : Bool} {apart : Rat → Bool} {B : List PB} {lo hi g : Rat} (h : DenseR ac B lo hi g) (hap : ∀ x, x ≤ g → apart x = false) (lb : List PB) :
 ∀ (la P cur : List PB) (e : Rat), (P ++ la).Perm B → Sorted ac la → (∃ b ∈ P, to ac b = e) → (∀ b ∈ P, to ac b ≤ e) →
  scanGo ac apart e cur (la ++ lb) = scanGo ac apart hi (cur ++ la) lb := by
 intro la
 induction la with
 | nil =>
   intro P cur e hp _ ⟨b, hb, he⟩ hm
   rw [List.append_nil] at hp
   have hbB := hp.mem_iff.1 hb
   have : e = hi := by
    have h1 := h.high b hbB
    by_cases hlt : to ac b < hi
    ·obtain ⟨c, hc, _, h3⟩ := h.next b hbB hlt
     have := hm c (hp.mem_iff.2 hc)
     grind
    ·grind
   rw [this]; simp
 | cons a la ih =>
   intro P cur e hp hs ⟨b, hb, he⟩ hm
   have hbB : b ∈ B := hp.mem_iff.1 (by simp [hb])
   have haB : a ∈ B := hp.mem_iff.1 (by simp)
   obtain ⟨hs1, hs2⟩ := List.pairwise_cons.1 hs
   have hna : apart (fr ac a - e) = false := by
    apply hap
    by_cases hlt : to ac b < hi
    ·obtain ⟨c, hc, h2, h3⟩ := h.next b hbB hlt
     have hc' := hp.mem_iff.2 hc
     rcases List.mem_append.1 hc' with hc' | hc'
     ·have := hm c hc'; grind
     ·rcases List.mem_cons.1 hc' with rfl | hc'
      ·grind
      ·have := hs1 c hc'; grind
    ·have := h.pos a haB; have := h.high a haB; have := h.gap; grind
   rw [List.cons_append, scanGo, hna]
   have := ih (P ++ [a]) (cur ++ [a]) (most e (to ac a)) (by simpa using hp) hs2
    (by unfold most; split
        ·exact ⟨a, by simp, rfl⟩
        ·exact ⟨b, by simp [hb], he⟩)
    (by intro c hc
        unfold most
        rcases List.mem_append.1 hc with hc | hc
        ·have := hm c hc; split <;> grind
        ·obtain rfl := List.mem_singleton.1 hc; split <;> grind)
   simpa using this
inductive Rows (ac : Bool) (apart : Rat → Bool) : List (List PB) → Rat → Prop where
 | one {B : List PB} {lo hi g : Rat} (h : DenseR ac B lo hi g) (hap : ∀ x, x ≤ g → apart x = false) : Rows ac apart [B] lo
 | cons {B : List PB} {lo hi g lo' : Rat} {Bs : List (List PB)} (h : DenseR ac B lo hi g) (hap : ∀ x, x ≤ g → apart x = false) (hlt : hi < lo') (ha : apart (lo' - hi) = true) (r : Rows ac apart Bs lo') :
    Rows ac apart (B :: Bs) lo
theorem Rows.low {ac : Bool} {apart : Rat → Bool} {Bs : List (List PB)} {lo : Rat} (h : Rows ac apart Bs lo) : ∀ b ∈ Bs.flatten, lo ≤ fr ac b := by
 induction h with
 | one h _ => intro b hb; exact h.low b (by simpa using hb)
 | cons h _ hlt _ r ih =>
   intro b hb
   rw [List.flatten_cons, List.mem_append] at hb
   rcases hb with hb | hb
   ·exact h.low b hb
   ·have h1 := ih b hb
    obtain ⟨c, hc, e⟩ := h.first
    have := h.pos c hc; have := h.high c hc
    grind
theorem Rows.first {ac : Bool} {apart : Rat → Bool} {Bs : List (List PB)} {lo : Rat} (h : Rows ac apart Bs lo) : ∃ b ∈ Bs.flatten, fr ac b = lo := by
 cases h with
 | one h _ => obtain ⟨b, hb, e⟩ := h.first; exact ⟨b, by simpa using hb, e⟩
 | cons h _ hlt _ r => obtain ⟨b, hb, e⟩ := h.first; exact ⟨b, by simp [hb], e⟩
inductive PermAll {α : Type} : List (List α) → List (List α) → Prop where
 | nil : PermAll [] []
 | cons {a b : List α} {as bs : List (List α)} (h : a.Perm b) (r : PermAll as bs) : PermAll (a :: as) (b :: bs)
theorem split_sorted {ac : Bool} {p : Rat} : ∀ {l A B : List PB}, Sorted ac l → l.Perm (A ++ B) → (∀ a ∈ A, fr ac a < p) → (∀ b ∈ B, p ≤ fr ac b) →
 ∃ la lb, l = la ++ lb ∧ la.Perm A ∧ lb.Perm B ∧ Sorted ac la ∧ Sorted ac lb := by
 intro l A B hs hp hA hB
 let t : PB → Bool := fun b => decide (fr ac b < p)
 have e : l = l.filter t ++ l.filter (fun b => !t b) := by
  clear hp hA hB
  induction l with
  | nil => rfl
  | cons a l ih =>
    obtain ⟨h1, h2⟩ := List.pairwise_cons.1 hs
    by_cases ha : t a = true
    ·have := ih h2
     simp only [List.filter_cons, ha, if_true, Bool.not_true, Bool.false_eq_true, if_false]
     rw [List.cons_append, ← this]
    ·have hf : l.filter t = [] := by
      rw [List.filter_eq_nil_iff]
      intro b hb
      have := h1 b hb
      simp only [t, decide_eq_true_eq] at ha ⊢
      grind
     have hn : l.filter (fun b => !t b) = l := by have := ih h2; rw [hf] at this; simpa using this.symm
     simp only [Bool.not_eq_true] at ha
     simp only [List.filter_cons, ha, hf, hn]
     simp
 have fA : (A ++ B).filter t = A := by
  rw [List.filter_append]
  have h1 : A.filter t = A := List.filter_eq_self.2 fun a ha => by simpa [t] using hA a ha
  have h2 : B.filter t = [] := List.filter_eq_nil_iff.2 fun b hb => by have := hB b hb; simp only [t, decide_eq_true_eq]; grind
  rw [h1, h2]; simp
 have fB : (A ++ B).filter (fun b => !t b) = B := by
  rw [List.filter_append]
  have h1 : A.filter (fun b => !t b) = [] := List.filter_eq_nil_iff.2 fun a ha => by simpa [t] using hA a ha
  have h2 : B.filter (fun b => !t b) = B := List.filter_eq_self.2 fun b hb => by have := hB b hb; simp only [t, Bool.not_eq_true', decide_eq_false_iff_not]; grind
  rw [h1, h2]; simp
 refine ⟨_, _, e, ?_, ?_, hs.filter _, hs.filter _⟩
 ·have := hp.filter t; rwa [fA] at this
 ·have := hp.filter (fun b => !t b); rwa [fB] at this
theorem scan_rows {ac : Bool} {apart : Rat → Bool} {Bs : List (List PB)} {lo : Rat} (h : Rows ac apart Bs lo) : ∀ {l : List PB}, l.Perm Bs.flatten → Sorted ac l → PermAll (scan ac apart l) Bs := by
 induction h with
 | @one B lo hi g h hap =>
   intro l hp hs
   have hp' : l.Perm B := by simpa using hp
   cases l with
   | nil =>
     obtain ⟨b, hb, _⟩ := h.first
     have := hp'.mem_iff.2 hb
     simp at this
   | cons a l =>
     obtain ⟨hs1, hs2⟩ := List.pairwise_cons.1 hs
     have := scanIn h hap [] l [a] [a] (to ac a) (by simpa using hp') hs2 ⟨a, by simp, rfl⟩ (by intro b hb; obtain rfl := List.mem_singleton.1 hb; grind)
     rw [scan, ← List.append_nil l, this]
     exact .cons (by simpa using hp') .nil
 | @cons B lo hi g lo' Bs h hap hlt ha r ih =>
   intro l hp hs
   obtain ⟨la, lb, rfl, pa, pb, sa, sb⟩ := split_sorted (p := lo') hs (by simpa using hp)
    (fun b hb => by have := h.high b hb; have := h.pos b hb; grind) r.low
   cases la with
   | nil =>
     obtain ⟨b, hb, _⟩ := h.first
     have := pa.mem_iff.2 hb
     simp at this
   | cons a la =>
     obtain ⟨hs1, hs2⟩ := List.pairwise_cons.1 sa
     have := scanIn h hap lb la [a] [a] (to ac a) (by simpa using pa) hs2 ⟨a, by simp, rfl⟩ (by intro b hb; obtain rfl := List.mem_singleton.1 hb; grind)
     rw [List.cons_append, scan, this]
     have hb := ih pb sb
     cases lb with
     | nil =>
       obtain ⟨b, hb, _⟩ := r.first
       have := pb.mem_iff.2 hb
       simp at this
     | cons b lb =>
       have hfb : fr ac b = lo' := by
        obtain ⟨c, hc, e⟩ := r.first
        have hc' := pb.mem_iff.2 hc
        have := r.low b (pb.mem_iff.1 (by simp))
        rcases List.mem_cons.1 hc' with rfl | hc'
        ·exact e
        ·have := (List.pairwise_cons.1 sb).1 c hc'; grind
       rw [scanGo, hfb, if_pos ha]
       exact .cons (by simpa using pa) hb
def holdsP (a b : PB) : Bool := decide (a.lf.kind = 1) && decide (a ≠ b) && decide (a.x ≤ b.x) && decide (a.y ≤ b.y) && decide (b.x + b.w ≤ a.x + a.w) && decide (b.y + b.h ≤ a.y + a.h)
def gapIs (s : Rat) (n : Int) : Rat → Bool := fun g => decide (g = s * n)
def SplitR (ac : Bool) (ap : Rat → Bool) (l : List PB) (parts : List (List PB)) : Prop := ∃ ys, ys.Perm l ∧ Sorted ac ys ∧ parts = scan ac ap ys
def AllR (C : List PB → Option (List Nd) → Prop) : List (List PB) → Option (List Nd) → Prop
 | [], r => r = some []
 | p :: ps, r => (C p none ∧ r = none) ∨ ∃ x r2, C p (some x) ∧ AllR C ps r2 ∧ r = r2.map (x ++ ·)
def DivR (C : List PB → Option (List Nd) → Prop) (s : Rat) (d : Int) (l : List PB) (r : Option (List Nd)) : Prop :=
 ∃ p, SplitR true (gapIs s (sp d)) l p ∧
  if p.length ≠ 1 then ∃ q, AllR C p q ∧ r = q.map (⟨bare 2, d⟩ :: ·)
  else ∃ p', SplitR false (gapIs s (sp d)) l p' ∧ if p'.length ≠ 1 then ∃ q, AllR C p' q ∧ r = q.map (⟨bare 3, d⟩ :: ·) else r = none
def OverN (d : Int) (a b : PB) : List Nd := [⟨bare 4, d⟩, ⟨a.lf, d + 1⟩, ⟨b.lf, d + 1⟩]
def CutR (s : Rat) : Nat → Int → List PB → Option (List Nd) → Prop
 | 0, _, _, r => r = none
 | f + 1, d, l, r => match l with
   | [b] => r = some [⟨b.lf, d⟩]
   | [a, b] => if holdsP b a = true then r = some (OverN d b a) else if holdsP a b = true then r = some (OverN d a b) else DivR (CutR s f (d + 1)) s d [a, b] r
   | l => DivR (CutR s f (d + 1)) s d l r
mutual
def Kd : Tree → Prop
 | .leaf l => l.kind = 1 ∨ l.kind = 6
 | .over a b => a.kind = 1 ∧ b.kind = 1
 | .beside ks => 2 ≤ ks.length ∧ Kds ks
 | .above ks => 2 ≤ ks.length ∧ Kds ks
def Kds : List Tree → Prop
 | [] => True
 | t :: r => Kd t ∧ Kds r
end
theorem tZ86 {P : Prop} (h : P := by
 simp only [fr, to, ex, aff, Bool.false_eq_true, if_false]; grind) : P := h
section
variable {k x0 y0 : Rat} (hk : 0 < k)
include hk
theorem mul_le' {a b : Int} (h : a ≤ b) : k * (a : Rat) ≤ k * (b : Rat) := Rat.mul_le_mul_of_nonneg_left (by exact_mod_cast h) (Rat.le_of_lt hk)
theorem mul_lt' {a b : Int} (h : a < b) : k * (a : Rat) < k * (b : Rat) := Rat.mul_lt_mul_of_pos_left (by exact_mod_cast h) hk
theorem Dense.affX {L : List Sq} {lo hi g : Int} (h : Dense (L.map Sq.px) lo hi g) (hg : 0 ≤ g) : DenseR true (L.map (aff k x0 y0)) (x0 + k * lo) (x0 + k * hi) (k * g) where
 pos b hb := by
  obtain ⟨q, hq, rfl⟩ := List.mem_map.1 hb
  have := mul_lt' hk (h.pos _ (List.mem_map.2 ⟨q, hq, rfl⟩))
  simp only [Sq.px, Rat.intCast_add] at this
  simp only [fr, to, ex, aff, if_true]; grind
 low b hb := by
  obtain ⟨q, hq, rfl⟩ := List.mem_map.1 hb
  have := mul_le' hk (h.low _ (List.mem_map.2 ⟨q, hq, rfl⟩))
  simp only [Sq.px] at this
  simp only [fr, aff, if_true]; grind
 high b hb := by
  obtain ⟨q, hq, rfl⟩ := List.mem_map.1 hb
  have := mul_le' hk (h.high _ (List.mem_map.2 ⟨q, hq, rfl⟩))
  simp only [Sq.px, Rat.intCast_add] at this
  simp only [fr, to, ex, aff, if_true]; grind
 first := by
  obtain ⟨p, hp, e⟩ := h.first
  obtain ⟨q, hq, rfl⟩ := List.mem_map.1 hp
  exact ⟨_, List.mem_map.2 ⟨q, hq, rfl⟩, by simp only [fr, aff, if_true]; rw [← e]; rfl⟩
 next b hb hlt := by
  obtain ⟨q, hq, rfl⟩ := List.mem_map.1 hb
  have hlo := h.low _ (List.mem_map.2 ⟨q, hq, rfl⟩)
  have hpos := h.pos _ (List.mem_map.2 ⟨q, hq, rfl⟩)
  simp only [Sq.px] at hlo hpos
  have hc : q.x + q.w < hi := by
   rcases Int.lt_or_le (q.x + q.w) hi with h1 | h1
   ·exact h1
   ·have := mul_le' hk h1
    simp only [Rat.intCast_add] at this
    simp only [fr, to, ex, aff, if_true] at hlt; grind
  obtain ⟨p, hp, h1, h2⟩ := h.next _ (by omega) hc
  obtain ⟨q', hq', rfl⟩ := List.mem_map.1 hp
  refine ⟨_, List.mem_map.2 ⟨q', hq', rfl⟩, ?_, ?_⟩
  ·have := mul_le' hk h1
   simp only [Sq.px, Rat.intCast_add] at this
   simp only [fr, to, ex, aff, if_true]; grind
  ·have := mul_lt' hk h2
   simp only [Sq.px, Rat.intCast_add] at this
   simp only [fr, to, ex, aff, if_true]; grind
 gap := by have := mul_le' hk hg; grind
theorem Dense.affY {L : List Sq} {lo hi g : Int} (h : Dense (L.map Sq.py) lo hi g) (hg : 0 ≤ g) : DenseR false (L.map (aff k x0 y0)) (y0 + k * lo) (y0 + k * hi) (k * g) where
 pos b hb := by
  obtain ⟨q, hq, rfl⟩ := List.mem_map.1 hb
  have := mul_lt' hk (h.pos _ (List.mem_map.2 ⟨q, hq, rfl⟩))
  simp only [Sq.py, Rat.intCast_add] at this
  exact tZ86
 low b hb := by
  obtain ⟨q, hq, rfl⟩ := List.mem_map.1 hb
  have := mul_le' hk (h.low _ (List.mem_map.2 ⟨q, hq, rfl⟩))
  simp only [Sq.py] at this
  simp only [fr, aff, Bool.false_eq_true, if_false]; grind
 high b hb := by
  obtain ⟨q, hq, rfl⟩ := List.mem_map.1 hb
  have := mul_le' hk (h.high _ (List.mem_map.2 ⟨q, hq, rfl⟩))
  simp only [Sq.py, Rat.intCast_add] at this
  exact tZ86
 first := by
  obtain ⟨p, hp, e⟩ := h.first
  obtain ⟨q, hq, rfl⟩ := List.mem_map.1 hp
  exact ⟨_, List.mem_map.2 ⟨q, hq, rfl⟩, by simp only [fr, aff, Bool.false_eq_true, if_false]; rw [← e]; rfl⟩
 next b hb hlt := by
  obtain ⟨q, hq, rfl⟩ := List.mem_map.1 hb
  have hlo := h.low _ (List.mem_map.2 ⟨q, hq, rfl⟩)
  have hpos := h.pos _ (List.mem_map.2 ⟨q, hq, rfl⟩)
  simp only [Sq.py] at hlo hpos
  have hc : q.y + q.h < hi := by
   rcases Int.lt_or_le (q.y + q.h) hi with h1 | h1
   ·exact h1
   ·have := mul_le' hk h1
    simp only [Rat.intCast_add] at this
    simp only [fr, to, ex, aff, Bool.false_eq_true, if_false] at hlt; grind
  obtain ⟨p, hp, h1, h2⟩ := h.next _ (by omega) hc
  obtain ⟨q', hq', rfl⟩ := List.mem_map.1 hp
  refine ⟨_, List.mem_map.2 ⟨q', hq', rfl⟩, ?_, ?_⟩
  ·have := mul_le' hk h1
   simp only [Sq.py, Rat.intCast_add] at this
   exact tZ86
  ·have := mul_lt' hk h2
   simp only [Sq.py, Rat.intCast_add] at this
   exact tZ86
 gap := by have := mul_le' hk hg; grind
end
def partsB (z : Sz) (s d m : Int) : List Tree → Int → Int → List (List Sq)
 | [], _, _ => []
 | t :: r, x, y => place z d t x (y + 2 * (m - natH z d t)) :: partsB z s d m r (x + 4 * (natW z d t + s)) y
def partsA (z : Sz) (s d m : Int) : List Tree → Int → Int → List (List Sq)
 | [], _, _ => []
 | t :: r, x, y => place z d t (x + 2 * (m - natW z d t)) y :: partsA z s d m r x (y + 4 * (natH z d t + s))
theorem partsB_flat (z : Sz) (s d m : Int) : ∀ (ks : List Tree) (x y : Int), (partsB z s d m ks x y).flatten = placeB z s d m ks x y
 | [], _, _ => rfl
 | t :: r, x, y => by rw [partsB, placeB, List.flatten_cons, partsB_flat z s d m r]
theorem partsA_flat (z : Sz) (s d m : Int) : ∀ (ks : List Tree) (x y : Int), (partsA z s d m ks x y).flatten = placeA z s d m ks x y
 | [], _, _ => rfl
 | t :: r, x, y => by rw [partsA, placeA, List.flatten_cons, partsA_flat z s d m r]
theorem partsB_len (z : Sz) (s d m : Int) : ∀ (ks : List Tree) (x y : Int), (partsB z s d m ks x y).length = ks.length
 | [], _, _ => rfl
 | t :: r, x, y => by rw [partsB, List.length_cons, List.length_cons, partsB_len z s d m r]
theorem partsA_len (z : Sz) (s d m : Int) : ∀ (ks : List Tree) (x y : Int), (partsA z s d m ks x y).length = ks.length
 | [], _, _ => rfl
 | t :: r, x, y => by rw [partsA, List.length_cons, List.length_cons, partsA_len z s d m r]
section
variable {σ x0 y0 : Rat} (hσ : 0 < σ)
include hσ
theorem quarter_pos : 0 < σ / 4 := by grind
theorem gap_no {s g : Int} (h : g < s) : ∀ x, x ≤ σ / 4 * ((4 * g : Int) : Rat) → gapIs σ s x = false := by
 intro x hx
 have := mul_lt' hσ h
 have e : ((4 * g : Int) : Rat) = 4 * (g : Rat) := by rw [Rat.intCast_mul]; rfl
 rw [e] at hx
 unfold gapIs
 simp only [decide_eq_false_iff_not]
 intro h2
 grind
theorem rowsB (z : Sz) (s d m : Int) (hs : sp d < s) : ∀ (ks : List Tree) (x y : Int), Oks z d ks → ks ≠ [] →
 Rows true (gapIs σ s) ((partsB z s d m ks x y).map fun L => L.map (aff (σ / 4) x0 y0)) (x0 + σ / 4 * (x : Rat))
 | [], _, _, _, hn => absurd rfl hn
 | [t], x, y, h, _ => by
   have g := (geo z t d x (y + 2 * (m - natH z d t)) h.1).dx
   have hd := h.1.deep
   have e := gx_le d t
   have e0 : 0 ≤ gx d t := by cases t <;> simp [gx, sp] <;> omega
   exact .one (g.affX (quarter_pos hσ) (by omega)) (gap_no hσ (by omega))
 | t :: u :: r, x, y, h, _ => by
   have g := geo z t d x (y + 2 * (m - natH z d t)) h.1
   have hd := h.1.deep
   have e := gx_le d t
   have e0 : 0 ≤ gx d t := by cases t <;> simp [gx, sp] <;> omega
   have ih := rowsB z s d m hs (u :: r) (x + 4 * (natW z d t + s)) y h.2 (by simp)
   have hsp : 0 < s := by have : 4 ≤ sp d := by { simp [sp]; omega }; omega
   have q := quarter_pos hσ
   refine .cons (g.dx.affX q (by omega)) (gap_no hσ (by omega)) (lo' := x0 + σ / 4 * ((x + 4 * (natW z d t + s) : Int) : Rat)) ?_ ?_ ih
   ·have := mul_lt' q (show x + 4 * natW z d t < x + 4 * (natW z d t + s) by omega)
    grind
   ·have e1 : ((x + 4 * (natW z d t + s) : Int) : Rat) = ((x + 4 * natW z d t : Int) : Rat) + 4 * (s : Rat) := by
     have : (x + 4 * (natW z d t + s) : Int) = (x + 4 * natW z d t) + 4 * s := by omega
     rw [this, Rat.intCast_add, Rat.intCast_mul]
     rfl
    unfold gapIs
    simp only [decide_eq_true_eq]
    rw [e1]
    grind
theorem rowsA (z : Sz) (s d m : Int) (hs : sp d < s) : ∀ (ks : List Tree) (x y : Int), Oks z d ks → ks ≠ [] →
 Rows false (gapIs σ s) ((partsA z s d m ks x y).map fun L => L.map (aff (σ / 4) x0 y0)) (y0 + σ / 4 * (y : Rat))
 | [], _, _, _, hn => absurd rfl hn
 | [t], x, y, h, _ => by
   have g := (geo z t d (x + 2 * (m - natW z d t)) y h.1).dy
   have hd := h.1.deep
   have e := gy_le d t
   have e0 : 0 ≤ gy d t := by cases t <;> simp [gy, sp] <;> omega
   exact .one (g.affY (quarter_pos hσ) (by omega)) (gap_no hσ (by omega))
 | t :: u :: r, x, y, h, _ => by
   have g := geo z t d (x + 2 * (m - natW z d t)) y h.1
   have hd := h.1.deep
   have e := gy_le d t
   have e0 : 0 ≤ gy d t := by cases t <;> simp [gy, sp] <;> omega
   have ih := rowsA z s d m hs (u :: r) x (y + 4 * (natH z d t + s)) h.2 (by simp)
   have hsp : 0 < s := by have : 4 ≤ sp d := by { simp [sp]; omega }; omega
   have q := quarter_pos hσ
   refine .cons (g.dy.affY q (by omega)) (gap_no hσ (by omega)) (lo' := y0 + σ / 4 * ((y + 4 * (natH z d t + s) : Int) : Rat)) ?_ ?_ ih
   ·have := mul_lt' q (show y + 4 * natH z d t < y + 4 * (natH z d t + s) by omega)
    grind
   ·have e1 : ((y + 4 * (natH z d t + s) : Int) : Rat) = ((y + 4 * natH z d t : Int) : Rat) + 4 * (s : Rat) := by
     have : (y + 4 * (natH z d t + s) : Int) = (y + 4 * natH z d t) + 4 * s := by omega
     rw [this, Rat.intCast_add, Rat.intCast_mul]
     rfl
    unfold gapIs
    simp only [decide_eq_true_eq]
    rw [e1]
    grind
end
end OG
