import Derived.Test.YtmejcmollpbcfaaGreatP00
import Derived.Test.YtmejcmollpbcfaaGreatP01
set_option linter.all false
namespace Go.Proofs.OGW
open Go.RowKit Go.Sort
attribute [local go_sem] sA fv sB
attribute [local go_sem ↓] ld66 ld51 st66 st51
def cmpR (a b : Rat) : Int := if a < b then -1 else if b < a then 1 else 0
theorem tZ15 {P : Prop} (h : P := by
 go_ret
 exact ⟨rfl, gw⟩) : P := h
theorem tZ92 {P : Prop} (h : P := by
 go_wp2
 exact tZ15) : P := h
theorem tZ78 {P : Prop} (h : P := by
 go_enter Tryz.func44, Tryz.ntmps44
 go_wp2
 have := mixed
 go_quiet_grown (fail)
 exact tZ92) : P := h
set_option maxHeartbeats 400000 in
theorem compare_call (a b : Rat) (h1 : -4611686018427387904 ≤ a.num * b.den) (h2 : a.num * b.den ≤ 4611686018427387904) (h3 : -4611686018427387904 ≤ b.num * a.den) (h4 : b.num * a.den ≤ 4611686018427387904) :
 Ans 44 #[fv a, fv b] (.int .i64 (cmpR a b)) := by
 intro w
 show Calls _ _ #[.agg #[.int .i64 a.num, .int .i64 (a.den : Int)], .agg #[.int .i64 b.num, .int .i64 (b.den : Int)]] _ _
 have w1 : IntKind.i64.wrap (a.num * b.den) = a.num * b.den := IntWalk.i64_in _ ⟨by omega, by omega⟩
 have w2 : IntKind.i64.wrap (b.num * a.den) = b.num * a.den := IntWalk.i64_in _ ⟨by omega, by omega⟩
 by_cases hlt : a < b
 ·have hv : cmpR a b = -1 := by simp [cmpR, hlt]
  rw [hv]
  have hd : decide (a.num * ↑b.den < b.num * ↑a.den) = true := by simpa using (Rat.lt_iff a b).1 hlt
  clear hlt hv
  exact tZ78
 ·have hd : decide (a.num * ↑b.den < b.num * ↑a.den) = false := by simpa using fun h => hlt ((Rat.lt_iff a b).2 h)
  by_cases hgt : b < a
  ·have hv : cmpR a b = 1 := by simp [cmpR, hlt, hgt]
   rw [hv]
   have hd2 : decide (b.num * ↑a.den < a.num * ↑b.den) = true := by simpa using (Rat.lt_iff b a).1 hgt
   clear hlt hgt hv
   exact tZ78
  ·have hv : cmpR a b = 0 := by simp [cmpR, hlt, hgt]
   rw [hv]
   have hd2 : decide (b.num * ↑a.den < a.num * ↑b.den) = false := by simpa using fun h => hgt ((Rat.lt_iff b a).2 h)
   clear hlt hgt hv
   exact tZ78
def leastR (a b : Rat) : Rat := if b < a then b else a
def mostR (a b : Rat) : Rat := if a < b then b else a
theorem tZ58 {P : Prop} (h : P := by
 go_enter Tryz.func179, Tryz.ntmps179
 go_wp2_with (go_at_call 44; refine (hc.at _).mono ?_; rintro e w' ⟨rfl, q, os, rfl⟩)
 refine bodyPost_ret (res64 Tryz.results179 rfl ?_) rfl ⟨rfl, ?_⟩
 ·go_simp
 ·exact gw) : P := h
set_option maxHeartbeats 400000 in
theorem least_call (a b : Rat) (h1 : -4611686018427387904 ≤ a.num * b.den) (h2 : a.num * b.den ≤ 4611686018427387904) (h3 : -4611686018427387904 ≤ b.num * a.den) (h4 : b.num * a.den ≤ 4611686018427387904) :
 Ans 179 #[fv a, fv b] (fv (leastR a b)) := by
 intro w
 have hc := compare_call b a h3 h4 h1 h2
 show Calls _ _ #[.agg #[.int .i64 a.num, .int .i64 (a.den : Int)], .agg #[.int .i64 b.num, .int .i64 (b.den : Int)]] _ _
 by_cases hlt : b < a
 ·have hv : leastR a b = b := by simp [leastR, hlt]
  have hv' : cmpR b a = -1 := by simp [cmpR, hlt]
  rw [hv]
  rw [hv'] at hc
  clear hlt hv hv'
  exact tZ58
 ·have hv : leastR a b = a := by simp [leastR, hlt]
  have hv' : decide (cmpR b a < 0) = false := by unfold cmpR; rw [if_neg hlt]; split <;> decide
  rw [hv]
  clear hlt hv
  generalize cmpR b a = c at hc hv'
  exact tZ58
theorem tZ48 {P : Prop} (h : P := by
 rw [hv]
 clear hlt hv
 generalize cmpR b a = c at hc hv'
 go_enter Tryz.func87, Tryz.ntmps87
 go_wp2_with (go_at_call 44; refine (hc.at _).mono ?_; rintro e w' ⟨rfl, q, os, rfl⟩)
 refine bodyPost_ret (res64 Tryz.results87 rfl ?_) rfl ⟨rfl, ?_⟩
 ·go_simp
 ·exact gw) : P := h
set_option maxHeartbeats 400000 in
theorem most_call (a b : Rat) (h1 : -4611686018427387904 ≤ a.num * b.den) (h2 : a.num * b.den ≤ 4611686018427387904) (h3 : -4611686018427387904 ≤ b.num * a.den) (h4 : b.num * a.den ≤ 4611686018427387904) :
 Ans 87 #[fv a, fv b] (fv (mostR a b)) := by
 intro w
 have hc := compare_call b a h3 h4 h1 h2
 show Calls _ _ #[.agg #[.int .i64 a.num, .int .i64 (a.den : Int)], .agg #[.int .i64 b.num, .int .i64 (b.den : Int)]] _ _
 by_cases hlt : a < b
 ·have hv : mostR a b = b := by simp [mostR, hlt]
  have hv' : decide (0 < cmpR b a) = true := by
   have : ¬ b < a := fun h => by grind
   simp [cmpR, hlt, this]
  exact tZ48
 ·have hv : mostR a b = a := by simp [mostR, hlt]
  have hv' : decide (0 < cmpR b a) = false := by unfold cmpR; rw [if_neg hlt]; split <;> decide
  exact tZ48
theorem floor_tdiv (n d : Int) (hd : 0 < d) : (if n.tmod d < 0 then n.tdiv d - 1 else n.tdiv d) = n / d := by
 rw [Int.tdiv_eq_ediv, Int.tmod_eq_emod]
 have := Int.emod_nonneg n (show d ≠ 0 by omega)
 have := Int.emod_lt_of_pos n hd
 have hs : d.sign = 1 := Int.sign_eq_one_of_pos hd
 have hdv : d ∣ n ↔ n % d = 0 := ⟨fun h => Int.emod_eq_zero_of_dvd h, fun h => Int.dvd_of_emod_eq_zero h⟩
 have hna : (d.natAbs : Int) = d := by omega
 rw [hs]
 by_cases hc : 0 ≤ n ∨ d ∣ n
 ·simp only [hc, if_true]
  rw [if_neg (by omega)]
  omega
 ·simp only [hc, if_false]
  have := fun h => hc (.inr (hdv.2 h))
  rw [if_pos (by omega)]
  omega
theorem tZ80 {P : Prop} (h : P := by
 have b1 : -4611686018427387904 ≤ n.tdiv d := by omega
 have b2 : n.tdiv d ≤ 4611686018427387904 := by omega
 clear hb hm
 go_enter Tryz.func38, Tryz.ntmps38
 exact tZ92) : P := h
set_option maxHeartbeats 400000 in
theorem floor_call (a : Rat) (h1 : -4611686018427387904 ≤ a.num) (h2 : a.num ≤ 4611686018427387904) : Ans 38 #[fv a] (.int .i64 a.floor) := by
 intro w
 rw [Rat.floor_def]
 have hd0 := a.den_pos
 have hd1 : (0 : Int) < a.den := by omega
 have hf := floor_tdiv a.num a.den hd1
 have hb := Int.natAbs_tdiv_le_natAbs a.num a.den
 show Calls _ _ #[.agg #[.int .i64 a.num, .int .i64 (a.den : Int)]] _ _
 generalize a.num = n at *
 generalize a.den = d at *
 have hne : ¬ d = 0 := by omega
 have q1 : IntKind.i64.wrap (n.tdiv ↑d) = n.tdiv ↑d := IntWalk.i64_in _ ⟨by omega, by omega⟩
 by_cases hm : n.tmod d < 0
 ·rw [if_pos hm] at hf
  rw [← hf]
  clear hf
  have hmd : decide (n.tmod d < 0) = true := by simpa using hm
  exact tZ80
 ·rw [if_neg hm] at hf
  rw [← hf]
  clear hf
  have hmd : decide (n.tmod d < 0) = false := by simpa using hm
  exact tZ80
set_option maxHeartbeats 400000 in
theorem ceil_call (a : Rat) (h1 : -4611686018427387904 ≤ a.num) (h2 : a.num ≤ 4611686018427387904) : Ans 152 #[fv a] (.int .i64 a.ceil) := by
 intro w
 have hf := floor_call (-a) (by rw [Rat.neg_num]; omega) (by rw [Rat.neg_num]; omega)
 rw [Rat.ceil_eq_neg_floor_neg]
 have hb : -4611686018427387904 ≤ (-a).floor ∧ (-a).floor ≤ 4611686018427387904 := by
  rw [Rat.floor_def, Rat.neg_num, Rat.neg_den]
  have := a.den_pos
  have hd1 : (0 : Int) < a.den := by omega
  constructor
  ·rw [Int.le_ediv_iff_mul_le hd1]
   have : -4611686018427387904 * (a.den : Int) ≤ -4611686018427387904 * 1 := Int.mul_le_mul_of_nonpos_left (by omega) (by omega)
   omega
  ·rcases Int.lt_or_le (-a.num) 0 with h | h
   ·have := Int.ediv_neg_of_neg_of_pos h hd1; omega
   ·exact Int.le_trans (Int.ediv_le_self _ h) (by omega)
 have e : fv (-a) = .agg #[.int .i64 (-a.num), .int .i64 (a.den : Int)] := rfl
 rw [e] at hf
 generalize (-a).floor = c at *
 show Calls _ _ #[.agg #[.int .i64 a.num, .int .i64 (a.den : Int)]] _ _
 clear e
 go_enter Tryz.func152, Tryz.ntmps152
 go_wp2_with (go_at_call 38; refine (hf.at _).mono ?_; rintro e w' ⟨rfl, q, os, rfl⟩)
 exact tZ15
end Go.Proofs.OGW
namespace Go.Proofs.OGW
open Go.RowKit Go.Sort OG
attribute [local go_sem] sA fv sB
attribute [local go_sem ↓] ld66 ld51 st66 st51
def validB (n d : Int) : Bool := decide (1 ≤ d) && decide (d ≤ 32768) && decide (-2147483647 ≤ n) && decide (n ≤ 2147483647) && ((Int.gcd n d : Int) == 1)
theorem validB_cases (n d : Int) : (d < 1 ∧ validB n d = false) ∨ (1 ≤ d ∧ 32768 < d ∧ validB n d = false) ∨ (1 ≤ d ∧ d ≤ 32768 ∧ n < -2147483647 ∧ validB n d = false) ∨
 (1 ≤ d ∧ d ≤ 32768 ∧ -2147483647 ≤ n ∧ 2147483647 < n ∧ validB n d = false) ∨
 (1 ≤ d ∧ d ≤ 32768 ∧ -2147483647 ≤ n ∧ n ≤ 2147483647 ∧ validB n d = ((Int.gcd n d : Int) == 1)) := by
 by_cases h1 : 1 ≤ d
 ·by_cases h2 : d ≤ 32768
  ·by_cases h3 : -2147483647 ≤ n
   ·by_cases h4 : n ≤ 2147483647
    ·exact .inr (.inr (.inr (.inr ⟨h1, h2, h3, h4, by simp [validB, h1, h2, h3, h4]⟩)))
    ·exact .inr (.inr (.inr (.inl ⟨h1, h2, h3, by omega, by simp [validB, h4]⟩)))
   ·exact .inr (.inr (.inl ⟨h1, h2, by omega, by simp [validB, h3]⟩))
  ·exact .inr (.inl ⟨h1, by omega, by simp [validB, h2]⟩)
 ·exact .inl ⟨by omega, by simp [validB, h1]⟩
theorem tZ43 {P : Prop} (h : P := by
 go_wp2_with fail
 exact tZ15) : P := h
set_option maxHeartbeats 400000 in
theorem valid_call (n d : Int) : Ans 141 #[.agg #[.int .i64 n, .int .i64 d]] (.bool (validB n d)) := by
 intro w
 rcases validB_cases n d with ⟨h1, hv⟩ | ⟨h1, h2, hv⟩ | ⟨h1, h2, h3, hv⟩ | ⟨h1, h2, h3, h4, hv⟩ | ⟨h1, h2, h3, h4, hv⟩
 iterate 4
  ·rw [hv]
   clear hv
   go_enter Tryz.func141, Tryz.ntmps141
   exact tZ43
 ·have hc := gcd_call n d (by omega) (by omega) (by omega) (by omega)
  rw [hv]
  clear hv
  generalize Int.gcd n d = g at *
  go_enter Tryz.func141, Tryz.ntmps141
  go_wp2_with (go_at_call 142; refine (hc.at _).mono ?_; rintro e w' ⟨rfl, q, os, rfl⟩)
  all_goals (go_ret; exact ⟨rfl, gw⟩)
structure RBox where
 lf : Lf
 xn : Int
 xd : Int
 yn : Int
 yd : Int
 wn : Int
 wd : Int
 hn : Int
 hd : Int
deriving DecidableEq, Inhabited
abbrev bcells (b : RBox) : List Value := [.int .i64 b.lf.kind, .int .i64 b.lf.sign, .int .i64 b.lf.turn, .bool b.lf.mirror, .int .i64 b.lf.state, .int .i64 b.lf.mn, .int .i64 b.lf.mx,
 .int .i64 b.xn, .int .i64 b.xd, .int .i64 b.yn, .int .i64 b.yd, .int .i64 b.wn, .int .i64 b.wd, .int .i64 b.hn, .int .i64 b.hd]
abbrev bv (b : RBox) : Value := .agg #[.int .i64 b.lf.kind, .int .i64 b.lf.sign, .int .i64 b.lf.turn, .bool b.lf.mirror, .int .i64 b.lf.state, .int .i64 b.lf.mn, .int .i64 b.lf.mx,
 .int .i64 b.xn, .int .i64 b.xd, .int .i64 b.yn, .int .i64 b.yd, .int .i64 b.wn, .int .i64 b.wd, .int .i64 b.hn, .int .i64 b.hd]
abbrev raw (p : PB) : RBox := ⟨p.lf, p.x.num, p.x.den, p.y.num, p.y.den, p.w.num, p.w.den, p.h.num, p.h.den⟩
abbrev pv (p : PB) : Value := bv (raw p)
def RBox.rat (b : RBox) : PB := ⟨b.lf, mkRat b.xn b.xd.toNat, mkRat b.yn b.yd.toNat, mkRat b.wn b.wd.toNat, mkRat b.hn b.hd.toNat⟩
def vld (q : Rat) : Bool := decide (q.den ≤ 32768) && decide (-2147483647 ≤ q.num) && decide (q.num ≤ 2147483647)
def placedP (p : PB) : Bool := decide (0 < p.w) && decide (0 < p.h) && vld (p.x + p.w) && vld (p.y + p.h)
def RBox.valid (b : RBox) : Bool := validB b.xn b.xd && validB b.yn b.yd && validB b.wn b.wd && validB b.hn b.hd
def RBox.placed (b : RBox) : Bool := b.valid && placedP b.rat
theorem validB_num {n d : Int} (h : validB n d = true) : (mkRat n d.toNat).num = n ∧ ((mkRat n d.toNat).den : Int) = d ∧ vld (mkRat n d.toNat) = true := by
 simp only [validB, Bool.and_eq_true, decide_eq_true_eq, beq_iff_eq] at h
 obtain ⟨⟨⟨⟨h1, h2⟩, h3⟩, h4⟩, h5⟩ := h
 obtain ⟨m, rfl⟩ := Int.eq_ofNat_of_zero_le (show 0 ≤ d by omega)
 have hg : m.gcd n.natAbs = 1 := by rw [Nat.gcd_comm]; have := h5; simp only [Int.gcd, Int.natAbs_natCast] at this; omega
 have e1 : (mkRat n m).num = n := by rw [Rat.num_mkRat, if_neg (by omega), hg]; simp
 have e2 : (mkRat n m).den = m := by rw [Rat.den_mkRat, if_neg (by omega), hg]; simp
 rw [Int.toNat_natCast, vld, e1, e2]
 exact ⟨rfl, rfl, by simp; omega⟩
theorem validB_rat (q : Rat) : validB q.num q.den = vld q := by
 have h1 : 1 ≤ (q.den : Int) := by have := q.den_pos; omega
 have h2 : (Int.gcd q.num q.den : Int) = 1 := by have := q.reduced; simp only [Nat.Coprime] at this; simp [Int.gcd, this]
 have h3 : ((q.den : Int) ≤ 32768) = (q.den ≤ 32768) := propext ⟨fun h => by omega, fun h => by omega⟩
 simp [validB, vld, h1, h2, h3]
theorem vld_bd {q : Rat} (h : vld q = true) : -2147483647 ≤ q.num ∧ q.num ≤ 2147483647 ∧ q.den ≤ 32768 := by
 simp only [vld, Bool.and_eq_true, decide_eq_true_eq] at h
 omega
theorem prod_bd {x : Int} {y N D : Nat} (h1 : -(N : Int) ≤ x) (h2 : x ≤ N) (h3 : y ≤ D) : -((N * D : Nat) : Int) ≤ x * y ∧ x * y ≤ ((N * D : Nat) : Int) := by
 have hy : (y : Int) ≤ D := by omega
 have a : (x * y).natAbs ≤ N * D := by rw [Int.natAbs_mul]; exact Nat.mul_le_mul (by omega) (by omega)
 omega
theorem RBox.raw_rat {b : RBox} (h : b.valid = true) : raw b.rat = b ∧ vld b.rat.x = true ∧ vld b.rat.y = true ∧ vld b.rat.w = true ∧ vld b.rat.h = true := by
 simp only [RBox.valid, Bool.and_eq_true] at h
 obtain ⟨⟨⟨h1, h2⟩, h3⟩, h4⟩ := h
 obtain ⟨a1, a2, a3⟩ := validB_num h1
 obtain ⟨b1, b2, b3⟩ := validB_num h2
 obtain ⟨c1, c2, c3⟩ := validB_num h3
 obtain ⟨d1, d2, d3⟩ := validB_num h4
 refine ⟨?_, a3, b3, c3, d3⟩
 cases b
 simp only [RBox.rat] at *
 simp only [raw, a1, a2, b1, b2, c1, c2, d1, d2]
theorem add_v {a b : Rat} (ha : vld a = true) (hb : vld b = true) : Ans 82 #[fv a, fv b] (fv (a + b)) := by
 obtain ⟨a1, a2, a3⟩ := vld_bd ha
 obtain ⟨b1, b2, b3⟩ := vld_bd hb
 have p := prod_bd (N := 2147483647) (D := 32768) a1 a2 b3
 have q := prod_bd (N := 2147483647) (D := 32768) b1 b2 a3
 exact add_call a b (by omega) (by omega) (by omega) (by omega) (Nat.le_trans (Nat.mul_le_mul a3 b3) (by decide))
theorem compare_v {a b : Rat} (ha : vld a = true) (hb : vld b = true) : Ans 44 #[fv a, fv b] (.int .i64 (cmpR a b)) := by
 obtain ⟨a1, a2, a3⟩ := vld_bd ha
 obtain ⟨b1, b2, b3⟩ := vld_bd hb
 have p := prod_bd (N := 2147483647) (D := 32768) a1 a2 b3
 have q := prod_bd (N := 2147483647) (D := 32768) b1 b2 a3
 exact compare_call a b (by omega) (by omega) (by omega) (by omega)
theorem compare_z {a : Rat} (ha : vld a = true) : Ans 44 #[fv a, .agg #[.int .i64 0, .int .i64 1]] (.int .i64 (cmpR a 0)) := by
 have h := compare_v (b := 0) ha (by rfl)
 exact h
theorem sub_v {a b : Rat} (ha : vld a = true) (hb : vld b = true) : Ans 85 #[fv a, fv b] (fv (a - b)) := by
 obtain ⟨a1, a2, a3⟩ := vld_bd ha
 obtain ⟨b1, b2, b3⟩ := vld_bd hb
 have p := prod_bd (N := 2147483647) (D := 32768) a1 a2 b3
 have q := prod_bd (N := 2147483647) (D := 32768) b1 b2 a3
 exact sub_call a b (by omega) (by omega) (by omega) (by omega) (Nat.le_trans (Nat.mul_le_mul a3 b3) (by decide)) (by omega) (by omega)
theorem valid_v (q : Rat) : Ans 141 #[fv q] (.bool (vld q)) := by rw [← validB_rat]; exact valid_call _ _
theorem cmpR_pos (w : Rat) : (0 < w ∧ cmpR w 0 = 1) ∨ (¬ 0 < w ∧ cmpR w 0 ≤ 0) := by
 unfold cmpR
 by_cases h : 0 < w
 ·exact .inl ⟨h, by rw [if_neg (by grind), if_pos h]⟩
 ·exact .inr ⟨h, by rw [if_neg h]; split <;> decide⟩
theorem tZ10 {P : Prop} (h : P := by
 go_enter Tryz.func81, Tryz.ntmps81
 go_wp2_with (first | (go_at_call 45; refine (h0.at _).mono ?_; rintro e w' ⟨rfl, q, os, rfl⟩) | (go_at_call 141; refine ((valid_call _ _).at _).mono ?_; rintro e w' ⟨rfl, q, os, rfl⟩) | (go_at_call 44; (first | (with_reducible refine (cw.at _).mono ?_) | (with_reducible refine (ch.at _).mono ?_)); rintro e w' ⟨rfl, q, os, rfl⟩) | (go_at_call 82; (first | (with_reducible refine (ax.at _).mono ?_) | (with_reducible refine (ay.at _).mono ?_)); rintro e w' ⟨rfl, q, os, rfl⟩))
 exact tZ15) : P := h
set_option maxHeartbeats 1000000 in
theorem placed_pv (p : PB) (hx : vld p.x = true) (hy : vld p.y = true) (hw : vld p.w = true) (hh : vld p.h = true) : Ans 81 #[pv p] (.bool (placedP p)) := by
 intro w
 have h0 := whole_call 0
 have cw := compare_z hw
 have ch := compare_z hh
 have ax := add_v hx hw
 have ay := add_v hy hh
 have vx : validB p.x.num p.x.den = true := by rw [validB_rat]; exact hx
 have vy : validB p.y.num p.y.den = true := by rw [validB_rat]; exact hy
 have vw : validB p.w.num p.w.den = true := by rw [validB_rat]; exact hw
 have vh : validB p.h.num p.h.den = true := by rw [validB_rat]; exact hh
 clear hx hy hw hh
 have v1 := validB_rat (p.x + p.w)
 have v2 := validB_rat (p.y + p.h)
 have hp : placedP p = (decide (0 < p.w) && decide (0 < p.h) && vld (p.x + p.w) && vld (p.y + p.h)) := rfl
 rw [hp]
 clear hp
 generalize p.x + p.w = sx at *
 generalize p.y + p.h = sy at *
 have hcase : (¬ 0 < p.w ∧ cmpR p.w 0 ≤ 0) ∨ (0 < p.w ∧ cmpR p.w 0 = 1 ∧ ¬ 0 < p.h ∧ cmpR p.h 0 ≤ 0) ∨ (0 < p.w ∧ cmpR p.w 0 = 1 ∧ 0 < p.h ∧ cmpR p.h 0 = 1) := by
  rcases cmpR_pos p.w with ⟨a, b⟩ | ⟨a, b⟩
  ·rcases cmpR_pos p.h with ⟨c, d⟩ | ⟨c, d⟩
   ·exact .inr (.inr ⟨a, b, c, d⟩)
   ·exact .inr (.inl ⟨a, b, c, d⟩)
  ·exact .inl ⟨a, b⟩
 rcases hcase with ⟨a, b⟩ | ⟨a, b, c, d⟩ | ⟨a, b, c, d⟩
 ·rw [decide_eq_false a]
  clear a
  generalize cmpR p.w 0 = k1 at *
  exact tZ10
 ·rw [decide_eq_true a, decide_eq_false c]
  rw [b] at cw
  clear a b c
  generalize cmpR p.h 0 = k1 at *
  exact tZ10
 ·rw [decide_eq_true a, decide_eq_true c]
  rw [b] at cw
  rw [d] at ch
  clear a b c d
  cases hs : vld sx
  all_goals
   rw [hs] at v1
   cases ht : vld sy
   all_goals
    rw [ht] at v2
    clear hs ht
    exact tZ10
set_option maxHeartbeats 1000000 in
theorem placed_call (b : RBox) : Ans 81 #[bv b] (.bool b.placed) := by
 have hcase : (validB b.xn b.xd = false) ∨ (validB b.xn b.xd = true ∧ validB b.yn b.yd = false) ∨ (validB b.xn b.xd = true ∧ validB b.yn b.yd = true ∧ validB b.wn b.wd = false) ∨
  (validB b.xn b.xd = true ∧ validB b.yn b.yd = true ∧ validB b.wn b.wd = true ∧ validB b.hn b.hd = false) ∨ b.valid = true := by
  unfold RBox.valid
  cases validB b.xn b.xd <;> cases validB b.yn b.yd <;> cases validB b.wn b.wd <;> cases validB b.hn b.hd <;> simp
 have h0 := whole_call 0
 rcases hcase with h1 | ⟨h1, h2⟩ | ⟨h1, h2, h3⟩ | ⟨h1, h2, h3, h4⟩ | hv
 iterate 4
  ·intro w
   have hp : b.placed = false := by simp [RBox.placed, RBox.valid, *]
   rw [hp]
   clear hp
   go_enter Tryz.func81, Tryz.ntmps81
   go_wp2_with (first | (go_at_call 45; refine (h0.at _).mono ?_; rintro e w' ⟨rfl, q, os, rfl⟩) | (go_at_call 141; refine ((valid_call _ _).at _).mono ?_; rintro e w' ⟨rfl, q, os, rfl⟩))
   exact tZ15
 ·obtain ⟨hr, hx, hy, hw, hh⟩ := b.raw_rat hv
  have hp : b.placed = placedP b.rat := by simp [RBox.placed, hv]
  have := placed_pv b.rat hx hy hw hh
  rw [pv, hr] at this
  rwa [hp]
end Go.Proofs.OGW
