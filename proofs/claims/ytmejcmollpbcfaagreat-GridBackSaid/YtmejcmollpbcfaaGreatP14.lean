import Derived.Test.YtmejcmollpbcfaaGreatP12
set_option linter.all false
namespace Go.Proofs.OGW
open Go.RowKit Go.Sort OG Go.Shelf Go.PlainAid
attribute [local go_sem] sA fv sB sG sC Nat.zero_add
attribute [local go_sem ↓] ld66 ld51 st66 st51
theorem between_call (c a b : Int) (w : World) : Calls Tryz.prog 158 #[.int .u8 c, .int .u8 a, .int .u8 b] w fun e w' => e = .returned (.bool (decide (a ≤ c) && decide (c ≤ b))) ∧ w' = w := by
 by_cases h : a ≤ c
 ·have d1 : decide (a ≤ c) = true := by simp [h]
  have hv : (decide (a ≤ c) && decide (c ≤ b)) = decide (c ≤ b) := by rw [d1]; rfl
  rw [hv]
  clear hv h
  go_enter Tryz.func158, Tryz.ntmps158
  exact tZ49
 ·have d1 : decide (a ≤ c) = false := by simp; omega
  have hv : (decide (a ≤ c) && decide (c ≤ b)) = false := by rw [d1]; rfl
  rw [hv]
  clear hv h
  go_enter Tryz.func158, Tryz.ntmps158
  exact tZ49
theorem between_up (c : Int) (w : World) : Calls Tryz.prog 158 #[.int .u8 c, .int .u8 65, .int .u8 90] w fun e w' => e = .returned (.bool (upB c)) ∧ w' = w := between_call c 65 90 w
theorem between_lo (c : Int) (w : World) : Calls Tryz.prog 158 #[.int .u8 c, .int .u8 97, .int .u8 122] w fun e w' => e = .returned (.bool (loB c)) ∧ w' = w := between_call c 97 122 w
theorem between_di (c : Int) (w : World) : Calls Tryz.prog 158 #[.int .u8 c, .int .u8 48, .int .u8 57] w fun e w' => e = .returned (.bool (diB c)) ∧ w' = w := between_call c 48 57 w
theorem all_bad {p : Nat → Bool} {n k : Nat} (hk : k < n) (h : p k = false) : (List.range n).all p = false := by
 rw [List.all_eq_false]
 exact ⟨k, List.mem_range.2 hk, by simp [h]⟩
theorem all_next {p : Nat → Bool} {k : Nat} (hall : ∀ j, j < k → p j = true) (h : p k = true) : ∀ j, j < k + 1 → p j = true := fun j hj => by
 rcases Nat.lt_or_ge j k with h' | h'
 ·exact hall j h'
 ·obtain rfl : j = k := by omega
  exact h
theorem all_good {p : Nat → Bool} {n : Nat} (h : ∀ j, j < n → p j = true) : (List.range n).all p = true := List.all_eq_true.2 fun j hj => h j (List.mem_range.1 hj)
set_option maxHeartbeats 2000000 in
theorem codeR_call (s : ByteArray) (w : World) : Calls Tryz.prog 111 #[.string s] w fun e w' => e = .returned (.bool (codeB s)) ∧ w' = w := by
 have hb := get_bt s
 by_cases h1 : s.size < 1
 ·have d1 : decide ((s.size : Int) < 1) = true := by simp; omega
  have hv : codeB s = false := by simp [codeB]; omega
  rw [hv]
  go_enter Tryz.func111, Tryz.ntmps111
  exact tZ49
 have d1 : decide ((s.size : Int) < 1) = false := by simp; omega
 by_cases h2 : 8 < s.size
 ·have d2 : decide (8 < (s.size : Int)) = true := by simp; omega
  have hv : codeB s = false := by simp [codeB]; omega
  rw [hv]
  go_enter Tryz.func111, Tryz.ntmps111
  exact tZ49
 have d2 : decide (8 < (s.size : Int)) = false := by simp; omega
 have z0 : 0 < s.size := by omega
 have HU := hiD between_up
 have HL := hiD between_lo
 have HD := hiD between_di
 cases h3 : upB (bt s 0)
 ·have hv : codeB s = false := by simp [codeB, h3]
  rw [hv]
  clear hv
  go_enter Tryz.func111, Tryz.ntmps111
  go_wp2_with ((go_at_call 158; with_reducible refine (HU.out _ _).mono ?_); rintro e w' ⟨rfl, rfl⟩; try rw [h3])
  go_ret
  exact ⟨rfl, rfl⟩
 have hv : codeB s = (List.range s.size).all fun i => upB (bt s i) || loB (bt s i) || diB (bt s i) := by
  simp [codeB, h3]; omega
 rw [hv]
 clear hv
 go_enter Tryz.func111, Tryz.ntmps111
 go_wp2_with ((go_at_call 158; with_reducible refine (HU.out _ _).mono ?_); rintro e w' ⟨rfl, rfl⟩; try rw [h3])
 go_loopw [3] (fun i wr => ∃ k : Nat, i = .int .i64 k ∧ k ≤ s.size ∧ Hid (wr = w') ∧ Hid (∀ j, j < k → (upB (bt s j) || loB (bt s j) || diB (bt s j)) = true)) (fun i _ => s.size - (intOf i).toNat)
 case atStart => exact ⟨0, rfl, Nat.zero_le _, rfl, fun j hj => by omega⟩
 case round =>
  obtain ⟨k, rfl, hk, hw, hall⟩ := hrel
  clear h3
  by_cases hlt : k < s.size
  ·have hd : decide ((k : Int) < (s.size : Int)) = true := by simp; omega
   have BAD := hiD (all_bad (p := fun i => upB (bt s i) || loB (bt s i) || diB (bt s i)) hlt)
   have NEXT := hiD (all_next (p := fun i => upB (bt s i) || loB (bt s i) || diB (bt s i)) hall.out)
   cases e1 : loB (bt s k) <;> cases e2 : upB (bt s k) <;> cases e3 : diB (bt s k)
   all_goals
    go_wp2_with ((first | (go_at_call 158; with_reducible refine (HU.out _ _).mono ?_) | (go_at_call 158; with_reducible refine (HL.out _ _).mono ?_) | (go_at_call 158; with_reducible refine (HD.out _ _).mono ?_)); rintro e w' ⟨rfl, rfl⟩; try simp only [e1, e2, e3])
   ·go_ret
    exact ⟨by rw [BAD.out (by simp [e1, e2, e3])]; rfl, hw.out⟩
   all_goals
    go_roundw
    case rel => exact ⟨k + 1, by go_num, by omega, hw, NEXT.out (by simp [e1, e2, e3])⟩
    case measure => simp [intOf]; omega
  ·have hd : decide ((k : Int) < (s.size : Int)) = false := by simp; omega
   have HV := hiD (all_good (p := fun i => upB (bt s i) || loB (bt s i) || diB (bt s i)) (n := s.size) (fun j hj => hall.out j (by omega)))
   exact tZ61
set_option maxHeartbeats 2000000 in
theorem small_call (s : ByteArray) (hs : s.size ≤ 1000000) (w : World) : Calls Tryz.prog 182 #[.string s] w fun e w' => e = .returned (.bool ((List.range s.size).all fun i => loB (bt s i))) ∧ w' = w := by
 have hb := get_bt s
 have HL := hiD between_lo
 go_enter Tryz.func182, Tryz.ntmps182
 go_wp2
 go_loopw [3] (fun i wr => ∃ k : Nat, i = .int .i64 k ∧ k ≤ s.size ∧ Hid (wr = w) ∧ Hid (∀ j, j < k → loB (bt s j) = true)) (fun i _ => s.size - (intOf i).toNat)
 case atStart => exact ⟨0, rfl, Nat.zero_le _, rfl, fun j hj => by omega⟩
 case round =>
  obtain ⟨k, rfl, hk, hw, hall⟩ := hrel
  by_cases hlt : k < s.size
  ·have hd : decide ((k : Int) < (s.size : Int)) = true := by simp; omega
   have BAD := hiD (all_bad (p := fun i => loB (bt s i)) hlt)
   have NEXT := hiD (all_next (p := fun i => loB (bt s i)) hall.out)
   cases e1 : loB (bt s k)
   all_goals
    go_wp2_with ((go_at_call 158; with_reducible refine (HL.out _ _).mono ?_); rintro e w' ⟨rfl, rfl⟩; try rw [e1])
   ·go_ret
    exact ⟨by rw [BAD.out e1]; rfl, hw.out⟩
   ·go_roundw
    case rel => exact ⟨k + 1, by go_num, by omega, hw, NEXT.out e1⟩
    case measure => simp [intOf]; omega
  ·have hd : decide ((k : Int) < (s.size : Int)) = false := by simp; omega
   have HV := hiD (all_good (p := fun i => loB (bt s i)) (n := s.size) (fun j hj => hall.out j (by omega)))
   exact tZ61
set_option maxHeartbeats 2000000 in
theorem sounds_call (s : ByteArray) (hs : s.size ≤ 1000000) (w : World) : Calls Tryz.prog 183 #[.string s] w fun e w' => e = .returned (.bool ((List.range s.size).all fun i => loB (bt s i) || upB (bt s i))) ∧ w' = w := by
 have hb := get_bt s
 have HU := hiD between_up
 have HL := hiD between_lo
 go_enter Tryz.func183, Tryz.ntmps183
 go_wp2
 go_loopw [3] (fun i wr => ∃ k : Nat, i = .int .i64 k ∧ k ≤ s.size ∧ Hid (wr = w) ∧ Hid (∀ j, j < k → (loB (bt s j) || upB (bt s j)) = true)) (fun i _ => s.size - (intOf i).toNat)
 case atStart => exact ⟨0, rfl, Nat.zero_le _, rfl, fun j hj => by omega⟩
 case round =>
  obtain ⟨k, rfl, hk, hw, hall⟩ := hrel
  by_cases hlt : k < s.size
  ·have hd : decide ((k : Int) < (s.size : Int)) = true := by simp; omega
   have BAD := hiD (all_bad (p := fun i => loB (bt s i) || upB (bt s i)) hlt)
   have NEXT := hiD (all_next (p := fun i => loB (bt s i) || upB (bt s i)) hall.out)
   cases e1 : loB (bt s k) <;> cases e2 : upB (bt s k)
   all_goals
    go_wp2_with ((first | (go_at_call 158; with_reducible refine (HU.out _ _).mono ?_) | (go_at_call 158; with_reducible refine (HL.out _ _).mono ?_)); rintro e w' ⟨rfl, rfl⟩; try simp only [e1, e2])
   ·go_ret
    exact ⟨by rw [BAD.out (by simp [e1, e2])]; rfl, hw.out⟩
   all_goals
    go_roundw
    case rel => exact ⟨k + 1, by go_num, by omega, hw, NEXT.out (by simp [e1, e2])⟩
    case measure => simp [intOf]; omega
  ·have hd : decide ((k : Int) < (s.size : Int)) = false := by simp; omega
   have HV := hiD (all_good (p := fun i => loB (bt s i) || upB (bt s i)) (n := s.size) (fun j hj => hall.out j (by omega)))
   exact tZ61
set_option maxHeartbeats 2000000 in
theorem right_call (kind : Int) (s : ByteArray) (w : World) : Calls Tryz.prog 159 #[.int .i64 kind, .string s] w fun e w' => e = .returned (.bool (textB kind s)) ∧ w' = w := by
 by_cases h1 : s.size < 1
 ·have d1 : decide ((s.size : Int) < 1) = true := by simp; omega
  have hv : textB kind s = false := by simp [textB]; omega
  rw [hv]
  go_enter Tryz.func159, Tryz.ntmps159
  exact tZ49
 have d1 : decide ((s.size : Int) < 1) = false := by simp; omega
 by_cases h2 : 8 < s.size
 ·have d2 : decide (8 < (s.size : Int)) = true := by simp; omega
  have hv : textB kind s = false := by simp [textB]; omega
  rw [hv]
  go_enter Tryz.func159, Tryz.ntmps159
  exact tZ49
 have d2 : decide (8 < (s.size : Int)) = false := by simp; omega
 have hsz : s.size ≤ 1000000 := by omega
 have hv : textB kind s = (List.range s.size).all fun i => loB (bt s i) || (decide (kind ≠ 3) && upB (bt s i)) := by
  exact tZ107
 have HS := hiD (small_call s hsz)
 have HO := hiD (sounds_call s hsz)
 rw [hv]
 clear hv
 by_cases h3 : kind = 3
 ·subst h3
  have hv : ((List.range s.size).all fun i => loB (bt s i) || (decide ((3 : Int) ≠ 3) && upB (bt s i))) = ((List.range s.size).all fun i => loB (bt s i)) := by simp
  rw [hv]
  clear hv
  go_enter Tryz.func159, Tryz.ntmps159
  go_wp2_with (go_at_call 182; refine (HS.out _).mono ?_; rintro e w' ⟨rfl, rfl⟩)
  go_ret
  exact ⟨rfl, rfl⟩
 ·have hv : ((List.range s.size).all fun i => loB (bt s i) || (decide (kind ≠ 3) && upB (bt s i))) = ((List.range s.size).all fun i => loB (bt s i) || upB (bt s i)) := by simp [h3]
  have d3 : (kind == 3) = false := by simpa using h3
  rw [hv]
  clear hv h3
  go_enter Tryz.func159, Tryz.ntmps159
  go_wp2_with (go_at_call 183; refine (HO.out _).mono ?_; rintro e w' ⟨rfl, rfl⟩)
  go_ret
  exact ⟨rfl, rfl⟩
theorem tZ121 {P : Prop} (h : P := by
 go_enter Tryz.func160, Tryz.ntmps160
 exact tZ92) : P := h
set_option maxHeartbeats 2000000 in
theorem collide_call (a b : Val) (w : World) : Calls Tryz.prog 160 #[vv a, vv b] w fun e w' => e = .returned (.bool (meetB a b)) ∧ Gr w w' := by
 by_cases h1 : a.kind = b.kind
 ·have d1 : (a.kind == b.kind) = true := by simpa using h1
  have H1 := hiD h1
  clear h1
  cases h2 : (a.text.toList == b.text.toList)
  ·have hv : meetB a b = false := by
    have : decide (a.text.toList = b.text.toList) = false := by simpa using h2
    simp [meetB, this]
   rw [hv]
   clear hv
   exact tZ121
  ·by_cases h3 : a.mn ≤ b.mx
   ·have d3 : decide (a.mn ≤ b.mx) = true := by simp [h3]
    have hv : meetB a b = decide (b.mn ≤ a.mx) := by
     have : a.text.toList = b.text.toList := by simpa using h2
     simp [meetB, this, H1.out, h3]
    rw [hv]
    clear hv
    exact tZ121
   ·have d3 : decide (a.mn ≤ b.mx) = false := by simp; omega
    have hv : meetB a b = false := by simp [meetB, h3]
    rw [hv]
    clear hv
    exact tZ121
 ·have d1 : (a.kind == b.kind) = false := by simpa using h1
  have hv : meetB a b = false := by simp [meetB, h1]
  rw [hv]
  clear hv h1
  exact tZ121
end Go.Proofs.OGW
namespace Go.Proofs.OGW
open Go.RowKit Go.Sort OG
attribute [local go_sem] sA fv sB sG eqlR neqR eqlP neqP guard66'
attribute [local go_sem ↓] ld66 ld51 st66 st51 eq66 ne66
def holdsB (a b : PB) : Bool := decide (a.lf.kind = 1) && decide (a ≠ b) && decide (a.x ≤ b.x) && decide (a.y ≤ b.y) && decide (b.x + b.w ≤ a.x + a.w) && decide (b.y + b.h ≤ a.y + a.h)
theorem cmpR_le (a b : Rat) : (a ≤ b ∧ cmpR a b ≤ 0) ∨ (¬ a ≤ b ∧ 0 < cmpR a b) := by
 unfold cmpR
 by_cases h : a < b
 ·exact .inl ⟨by grind, by rw [if_pos h]; decide⟩
 ·by_cases h' : b < a
  ·exact .inr ⟨by grind, by rw [if_neg h, if_pos h']; decide⟩
  ·exact .inl ⟨by grind, by rw [if_neg h, if_neg h']; decide⟩
theorem holdsB_cases (a b : PB) : (¬ a.lf.kind = 1 ∧ holdsB a b = false) ∨ (a.lf.kind = 1 ∧ a = b ∧ holdsB a b = false) ∨ (a.lf.kind = 1 ∧ ¬ a = b ∧ ¬ a.x ≤ b.x ∧ holdsB a b = false) ∨
 (a.lf.kind = 1 ∧ ¬ a = b ∧ a.x ≤ b.x ∧ ¬ a.y ≤ b.y ∧ holdsB a b = false) ∨ (a.lf.kind = 1 ∧ ¬ a = b ∧ a.x ≤ b.x ∧ a.y ≤ b.y ∧ ¬ b.x + b.w ≤ a.x + a.w ∧ holdsB a b = false) ∨
 (a.lf.kind = 1 ∧ ¬ a = b ∧ a.x ≤ b.x ∧ a.y ≤ b.y ∧ b.x + b.w ≤ a.x + a.w ∧ ¬ b.y + b.h ≤ a.y + a.h ∧ holdsB a b = false) ∨
 (a.lf.kind = 1 ∧ ¬ a = b ∧ a.x ≤ b.x ∧ a.y ≤ b.y ∧ b.x + b.w ≤ a.x + a.w ∧ b.y + b.h ≤ a.y + a.h ∧ holdsB a b = true) := by
 by_cases h1 : a.lf.kind = 1 <;> by_cases h2 : a = b <;> by_cases h3 : a.x ≤ b.x <;> by_cases h4 : a.y ≤ b.y <;> by_cases h5 : b.x + b.w ≤ a.x + a.w <;> by_cases h6 : b.y + b.h ≤ a.y + a.h <;> simp_all [holdsB]
structure PL (p : PB) : Prop where
 x : vld p.x = true
 y : vld p.y = true
 w : vld p.w = true
 h : vld p.h = true
 xw : vld (p.x + p.w) = true
 yh : vld (p.y + p.h) = true
set_option maxHeartbeats 16000000 in
set_option maxRecDepth 100000 in
theorem holds_call (a b : PB) (ha : PL a) (hb : PL b) : Ans 96 #[pv a, pv b] (.bool (holdsB a b)) := by
 intro w
 have c1 := compare_v ha.x hb.x
 have c2 := compare_v ha.y hb.y
 have s1 := add_v hb.x hb.w
 have s2 := add_v ha.x ha.w
 have s3 := add_v hb.y hb.h
 have s4 := add_v ha.y ha.h
 have c3 := compare_v hb.xw ha.xw
 have c4 := compare_v hb.yh ha.yh
 have hc := holdsB_cases a b
 clear ha hb
 have k1 := cmpR_le a.x b.x
 have k2 := cmpR_le a.y b.y
 have k3 := cmpR_le (b.x + b.w) (a.x + a.w)
 have k4 := cmpR_le (b.y + b.h) (a.y + a.h)
 generalize cmpR a.x b.x = v1 at *
 generalize cmpR a.y b.y = v2 at *
 generalize cmpR (b.x + b.w) (a.x + a.w) = v3 at *
 generalize cmpR (b.y + b.h) (a.y + a.h) = v4 at *
 generalize b.x + b.w = t1 at *
 generalize a.x + a.w = t2 at *
 generalize b.y + b.h = t3 at *
 generalize a.y + a.h = t4 at *
 rcases hc with ⟨h1, hv⟩ | ⟨h1, h2, hv⟩ | ⟨h1, h2, h3, hv⟩ | ⟨h1, h2, h3, h4, hv⟩ | ⟨h1, h2, h3, h4, h5, hv⟩ | ⟨h1, h2, h3, h4, h5, h6, hv⟩ | ⟨h1, h2, h3, h4, h5, h6, hv⟩
 all_goals
  rw [hv]
  clear hv
  try (have e1 : (a.lf.kind == 1) = true := by simpa using h1)
  try (have e1 : (a.lf.kind == 1) = false := by simpa using h1)
  try (have e2 : decide (a = b) = true := decide_eq_true h2)
  try (have e2 : decide (a = b) = false := decide_eq_false h2)
  try (have e3 : decide (v1 ≤ 0) = true := by simp only [h3, not_true_eq_false, true_and, false_and, or_false] at k1; exact decide_eq_true k1)
  try (have e3 : decide (v1 ≤ 0) = false := by simp only [h3, not_false_eq_true, true_and, false_and, false_or] at k1; exact decide_eq_false (by omega))
  try (have e4 : decide (v2 ≤ 0) = true := by simp only [h4, not_true_eq_false, true_and, false_and, or_false] at k2; exact decide_eq_true k2)
  try (have e4 : decide (v2 ≤ 0) = false := by simp only [h4, not_false_eq_true, true_and, false_and, false_or] at k2; exact decide_eq_false (by omega))
  try (have e5 : decide (v3 ≤ 0) = true := by simp only [h5, not_true_eq_false, true_and, false_and, or_false] at k3; exact decide_eq_true k3)
  try (have e5 : decide (v3 ≤ 0) = false := by simp only [h5, not_false_eq_true, true_and, false_and, false_or] at k3; exact decide_eq_false (by omega))
  try (have e6 : decide (v4 ≤ 0) = true := by simp only [h6, not_true_eq_false, true_and, false_and, or_false] at k4; exact decide_eq_true k4)
  try (have e6 : decide (v4 ≤ 0) = false := by simp only [h6, not_false_eq_true, true_and, false_and, false_or] at k4; exact decide_eq_false (by omega))
  clear h1
  try clear h2
  try clear h3
  try clear h4
  try clear h5
  try clear h6
  clear k1 k2 k3 k4
  have := mixed
  go_enter Tryz.func96, Tryz.ntmps96
  go_wp2
  refine wp_region_quiet_grown mixed (by kernel_rfl) ?_
  repeat (go_big_quiet_step ((first | (go_at_call 44; first | (with_reducible exact c1.quiet) | (with_reducible exact c2.quiet) | (with_reducible exact c3.quiet) | (with_reducible exact c4.quiet)) | (go_at_call 82; first | (with_reducible exact s1.quiet) | (with_reducible exact s2.quiet) | (with_reducible exact s3.quiet) | (with_reducible exact s4.quiet)))))
  exact tZ120
end Go.Proofs.OGW
namespace Go.Proofs.OGW
open Go.RowKit Go.Sort OG Go.Shelf
structure KC (f : PB → PB → Int) : Prop where
 anti : ∀ x y, f y x = - f x y
 tr : ∀ x y z, 0 ≤ f y x → 0 ≤ f z y → 0 ≤ f z x
 eq : ∀ x y, f y x = 0 → ∀ z, f z x = f z y
def lexL (fs : List (PB → PB → Int)) (x y : PB) : Int := orL (fs.map fun f => f x y)
theorem lex_anti : ∀ (fs : List (PB → PB → Int)), (∀ f ∈ fs, KC f) → ∀ x y, lexL fs y x = - lexL fs x y
 | [], _, _, _ => rfl
 | f :: fs, h, x, y => by
   have h1 := (h f (by simp)).anti x y
   have h2 := lex_anti fs (fun g hg => h g (by simp [hg])) x y
   unfold lexL at *
   simp only [List.map_cons, orL]
   by_cases h0 : f x y = 0
   ·rw [if_pos h0, if_pos (by omega)]; exact h2
   ·rw [if_neg h0, if_neg (by omega)]; exact h1
theorem lex_tr : ∀ (fs : List (PB → PB → Int)), (∀ f ∈ fs, KC f) → ∀ x y z, 0 ≤ lexL fs y x → 0 ≤ lexL fs z y → 0 ≤ lexL fs z x
 | [], _, _, _, _, _, _ => by simp [lexL, orL]
 | f :: fs, h, x, y, z, h1, h2 => by
   have hf := h f (by simp)
   have ih := lex_tr fs (fun g hg => h g (by simp [hg])) x y z
   have a1 := hf.anti y z
   have a2 := hf.anti x y
   have a3 := hf.anti x z
   unfold lexL at *
   simp only [List.map_cons, orL] at h1 h2 ⊢
   by_cases hyx : f y x = 0
   ·have e := hf.eq x y hyx z
    rw [if_pos hyx] at h1
    by_cases hzy : f z y = 0
    ·rw [if_pos hzy] at h2
     rw [if_pos (by omega)]
     exact ih h1 h2
    ·rw [if_neg hzy] at h2
     rw [if_neg (by omega)]; omega
   ·rw [if_neg hyx] at h1
    by_cases hzy : f z y = 0
    ·have e := hf.eq y z hzy x
     rw [if_neg (by omega)]; omega
    ·rw [if_neg hzy] at h2
     have h3 := hf.tr x y z h1 h2
     by_cases hzx : f z x = 0
     ·have e := hf.eq x z hzx y
      omega
     ·rw [if_neg hzx]; exact h3
theorem lex_zero : ∀ (fs : List (PB → PB → Int)) x y, lexL fs x y = 0 → ∀ f ∈ fs, f x y = 0
 | [], _, _, _, _, hf => by cases hf
 | f :: fs, x, y, h, g, hg => by
   unfold lexL at h
   simp only [List.map_cons, orL] at h
   by_cases h0 : f x y = 0
   ·rw [if_pos h0] at h
    rcases List.mem_cons.1 hg with rfl | hg
    ·exact h0
    ·exact lex_zero fs x y h g hg
   ·rw [if_neg h0] at h; exact absurd h h0
theorem kcR (k : PB → Rat) : KC (fun x y => cmpR (k x) (k y)) where
 anti x y := by
  unfold cmpR
  by_cases h1 : k x < k y
  ·have h2 : ¬ k y < k x := by grind
   simp [h1, h2]
  ·by_cases h2 : k y < k x
   ·simp [h1, h2]
   ·simp [h1, h2]
 tr x y z h1 h2 := by rw [cmpR_nn] at *; exact Rat.le_trans h1 h2
 eq x y h z := by
  have e : k x = k y := by
   unfold cmpR at h
   split at h
   ·omega
   ·split at h
    ·omega
    ·rename_i a b; exact Rat.le_antisymm (Rat.not_lt.1 a) (Rat.not_lt.1 b)
  simp only [e]
theorem kcI (k : PB → Int) : KC (fun x y => cmpI (k x) (k y)) where
 anti x y := by unfold cmpI; omega
 tr x y z h1 h2 := by unfold cmpI at *; omega
 eq x y h z := by unfold cmpI at *; omega
theorem kcD (k : PB → Int) : KC (fun x y => k x - k y) where
 anti x y := by omega
 tr x y z h1 h2 := by omega
 eq x y h z := by omega
def totF : List (PB → PB → Int) := [fun p q => cmpR p.x q.x, fun p q => cmpR p.y q.y, fun p q => cmpR p.w q.w, fun p q => cmpR p.h q.h, fun p q => cmpI p.lf.kind q.lf.kind, fun p q => cmpI p.lf.sign q.lf.sign, fun p q => cmpI p.lf.turn q.lf.turn,
 fun p q => bitI p.lf.mirror - bitI q.lf.mirror, fun p q => cmpI p.lf.state q.lf.state, fun p q => cmpI p.lf.mn q.lf.mn, fun p q => cmpI p.lf.mx q.lf.mx]
theorem totF_kc : ∀ f ∈ totF, KC f := by
 intro f hf
 simp only [totF, List.mem_cons, List.not_mem_nil, or_false] at hf
 rcases hf with rfl | rfl | rfl | rfl | rfl | rfl | rfl | rfl | rfl | rfl | rfl
 ·exact kcR PB.x
 ·exact kcR PB.y
 ·exact kcR PB.w
 ·exact kcR PB.h
 ·exact kcI (fun p => p.lf.kind)
 ·exact kcI (fun p => p.lf.sign)
 ·exact kcI (fun p => p.lf.turn)
 ·exact kcD (fun p => bitI p.lf.mirror)
 ·exact kcI (fun p => p.lf.state)
 ·exact kcI (fun p => p.lf.mn)
 ·exact kcI (fun p => p.lf.mx)
theorem tot_lex (x y : PB) : totalC x y = lexL totF x y := rfl
theorem ord_total (S : PB → Prop) : Ord S totalC where
 trans x y z _ _ _ h1 h2 := by rw [tot_lex] at *; exact lex_tr totF totF_kc x y z h1 h2
 anti x y _ _ h := by rw [tot_lex] at *; rw [lex_anti totF totF_kc x y]; omega
theorem tot_eq {x y : PB} (h : totalC x y = 0) : x = y := by
 rw [tot_lex] at h
 have hz := lex_zero totF x y h
 have r : ∀ {a b : Rat}, cmpR a b = 0 → a = b := by
  intro a b h
  unfold cmpR at h
  split at h
  ·omega
  ·split at h
   ·omega
   ·rename_i a b; exact Rat.le_antisymm (Rat.not_lt.1 b) (Rat.not_lt.1 a)
 have i : ∀ {a b : Int}, cmpI a b = 0 → a = b := by
  intro a b h
  unfold cmpI at h
  split at h <;> (try split at h) <;> omega
 have bt : ∀ {a b : Bool}, bitI a - bitI b = 0 → a = b := by intro a b; cases a <;> cases b <;> simp [bitI]
 have g : ∀ f, f ∈ totF → f x y = 0 := hz
 obtain ⟨⟨k, s, t, m, st, mn, mx⟩, a, b, c, d⟩ := x
 obtain ⟨⟨k', s', t', m', st', mn', mx'⟩, a', b', c', d'⟩ := y
 have e1 := r (g _ (List.mem_of_getElem? (i := 0) rfl))
 have e2 := r (g _ (List.mem_of_getElem? (i := 1) rfl))
 have e3 := r (g _ (List.mem_of_getElem? (i := 2) rfl))
 have e4 := r (g _ (List.mem_of_getElem? (i := 3) rfl))
 have e5 := i (g _ (List.mem_of_getElem? (i := 4) rfl))
 have e6 := i (g _ (List.mem_of_getElem? (i := 5) rfl))
 have e7 := i (g _ (List.mem_of_getElem? (i := 6) rfl))
 have e8 := bt (g _ (List.mem_of_getElem? (i := 7) rfl))
 have e9 := i (g _ (List.mem_of_getElem? (i := 8) rfl))
 have e10 := i (g _ (List.mem_of_getElem? (i := 9) rfl))
 have e11 := i (g _ (List.mem_of_getElem? (i := 10) rfl))
 simp only at e1 e2 e3 e4 e5 e6 e7 e8 e9 e10 e11
 subst e1 e2 e3 e4 e5 e6 e7 e8 e9 e10 e11
 rfl
theorem srt_unique : ∀ {l m : List PB}, l.Perm m → Srt totalC l → Srt totalC m → l = m
 | [], m, h, _, _ => by have := h.nil_eq; exact this
 | a :: l, m, h, hl, hm => by
   obtain ⟨b, m', rfl⟩ : ∃ b m', m = b :: m' := by
    cases m with
    | nil => have := h.length_eq; simp at this
    | cons b m' => exact ⟨b, m', rfl⟩
   have hab : a = b := by
    have h1 : b ∈ a :: l := (h.mem_iff (a := b)).2 (by simp)
    have h2 : a ∈ b :: m' := (h.mem_iff (a := a)).1 (by simp)
    unfold Srt at hl hm
    rw [List.pairwise_cons] at hl hm
    rcases List.mem_cons.1 h1 with e | e
    ·exact e.symm
    ·rcases List.mem_cons.1 h2 with e2 | e2
     ·exact e2
     ·have g1 := hl.1 b e
      have g2 := hm.1 a e2
      have g3 := lex_anti totF totF_kc a b
      rw [← tot_lex, ← tot_lex] at g3
      exact tot_eq (by omega)
   subst hab
   unfold Srt at hl hm
   rw [List.pairwise_cons] at hl hm
   rw [srt_unique (List.perm_cons a |>.1 h) hl.2 hm.2]
theorem good.pv {p : PB} (h : good p = true) : PV p := by
 simp only [good, Bool.and_eq_true] at h
 exact ⟨h.1.1.1.1, h.1.1.1.2, h.1.1.2, h.1.2⟩
theorem cmp_total (w' : World) (n : Nat) : Cmp w' n (fun x => good x = true) 49 #[] totalC where
 ent := ent_of Tryz.func49 (by kernel_rfl) rfl
 call := fun x y w2 hx hy _ _ => by simpa using total_call x y (good.pv hx) (good.pv hy) w2
end Go.Proofs.OGW
