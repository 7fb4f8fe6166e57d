import Derived.Maps.OwnOps
import Derived.Maps.Views
import Derived.PlainAid
import Derived.StringKeys
import Derived.Test.YtmejcmollpbcfaaGreatP11
set_option linter.all false
namespace Go.Proofs.OGW
open Go.RowKit Go.Sort OG Go.Shelf Go.PlainAid
attribute [local go_sem] sA fv sB sG Nat.zero_add
attribute [local go_sem ↓] ld66 ld51 st66 st51
def upB (b : Int) : Bool := decide (65 ≤ b) && decide (b ≤ 90)
def loB (b : Int) : Bool := decide (97 ≤ b) && decide (b ≤ 122)
def diB (b : Int) : Bool := decide (48 ≤ b) && decide (b ≤ 57)
def codeB (s : ByteArray) : Bool := decide (1 ≤ s.size) && decide (s.size ≤ 8) && upB (bt s 0) && (List.range s.size).all fun i => upB (bt s i) || loB (bt s i) || diB (bt s i)
def textB (kind : Int) (s : ByteArray) : Bool := decide (1 ≤ s.size) && decide (s.size ≤ 8) && (List.range s.size).all fun i => loB (bt s i) || (decide (kind ≠ 3) && upB (bt s i))
theorem byte_class (c : Int) : c < 48 ∨ (48 ≤ c ∧ c ≤ 57) ∨ (58 ≤ c ∧ c ≤ 64) ∨ (65 ≤ c ∧ c ≤ 90) ∨ (91 ≤ c ∧ c ≤ 96) ∨ (97 ≤ c ∧ c ≤ 122) ∨ 123 ≤ c := by omega
theorem tZ124 {P : Prop} (h : P := by
 clear hc
 go_wp2_with fail
 go_ret
 exact ⟨by rw [BAD.out (by simp [upB, loB, diB, e1, e2, e3, e4, e5, e6])]; rfl, hw.out⟩) : P := h
theorem tZ25 {P : Prop} (h : P := by
 have e5 : decide (48 ≤ bt s k) = true := by simp; omega
 have e6 : decide (bt s k ≤ 57) = false := by simp; omega
 exact tZ124) : P := h
theorem tZ76 {P : Prop} (h : P := by
 clear hc
 go_wp2_with fail
 go_roundw
 case rel => exact ⟨k + 1, by go_num, by omega, hw, NEXT.out (by simp [upB, loB, diB, e1, e2, e3, e4, e5, e6])⟩
 case measure => simp [intOf]; omega) : P := h
theorem tZ34 {P : Prop} (h : P := by
 have e4 : decide (bt s k ≤ 122) = true := by simp; omega
 have e5 : decide (48 ≤ bt s k) = true := by simp; omega
 have e6 : decide (bt s k ≤ 57) = false := by simp; omega
 exact tZ76) : P := h
theorem tZ49 {P : Prop} (h : P := by
 go_wp2
 go_ret
 exact ⟨rfl, rfl⟩) : P := h
theorem tZ61 {P : Prop} (h : P := by
 go_wp2_with fail
 go_ret
 exact ⟨by rw [HV.out]; rfl, hw.out⟩) : P := h
theorem tZ100 {P : Prop} (h : P := by
 rw [hv]
 go_enter Tryz.func79, Tryz.ntmps79
 exact tZ49) : P := h
theorem tZ115 {P : Prop} (h : P := by
 have e3 : decide (97 ≤ bt s k) = false := by simp; omega
 have e4 : decide (bt s k ≤ 122) = true := by simp; omega
 exact tZ25) : P := h
set_option maxHeartbeats 2000000 in
theorem validCode_call (s : ByteArray) (w : World) : Calls Tryz.prog 79 #[.string s] w fun e w' => e = .returned (.bool (codeB s)) ∧ w' = w := by
 have hb := get_bt s
 by_cases h1 : s.size < 1
 ·have d1 : decide ((s.size : Int) < 1) = true := by simp; omega
  have hv : codeB s = false := by simp [codeB]; omega
  exact tZ100
 have d1 : decide ((s.size : Int) < 1) = false := by simp; omega
 by_cases h2 : 8 < s.size
 ·have d2 : decide (8 < (s.size : Int)) = true := by simp; omega
  have hv : codeB s = false := by simp [codeB]; omega
  exact tZ100
 have d2 : decide (8 < (s.size : Int)) = false := by simp; omega
 have z0 : 0 < s.size := by omega
 by_cases h3 : bt s 0 < 65
 ·have d3 : decide (bt s 0 < 65) = true := by simp; omega
  have hv : codeB s = false := by simp [codeB, upB]; omega
  exact tZ100
 have d3 : decide (bt s 0 < 65) = false := by simp; omega
 by_cases h4 : 90 < bt s 0
 ·have d4 : decide (90 < bt s 0) = true := by simp; omega
  have hv : codeB s = false := by simp [codeB, upB]; omega
  exact tZ100
 have d4 : decide (90 < bt s 0) = false := by simp; omega
 have hv : codeB s = (List.range s.size).all fun i => upB (bt s i) || loB (bt s i) || diB (bt s i) := by
  have : upB (bt s 0) = true := by simp [upB]; omega
  simp [codeB, this]; omega
 rw [hv]
 clear hv
 go_enter Tryz.func79, Tryz.ntmps79
 go_wp2
 go_loopw [3] (fun i wr => ∃ k : Nat, i = .int .i64 k ∧ k ≤ s.size ∧ Hid (wr = w) ∧ Hid (∀ j, j < k → (upB (bt s j) || loB (bt s j) || diB (bt s j)) = true)) (fun i _ => s.size - (intOf i).toNat)
 case atStart => exact ⟨0, rfl, Nat.zero_le _, rfl, fun j hj => by omega⟩
 case round =>
  obtain ⟨k, rfl, hk, hw, hall⟩ := hrel
  by_cases hlt : k < s.size
  ·have hd : decide ((k : Int) < (s.size : Int)) = true := by simp; omega
   have bad : (upB (bt s k) || loB (bt s k) || diB (bt s k)) = false → (List.range s.size).all (fun i => upB (bt s i) || loB (bt s i) || diB (bt s i)) = false := fun h => by
    rw [List.all_eq_false]
    exact ⟨k, List.mem_range.2 hlt, by simp [h]⟩
   have next : (upB (bt s k) || loB (bt s k) || diB (bt s k)) = true → ∀ j, j < k + 1 → (upB (bt s j) || loB (bt s j) || diB (bt s j)) = true := fun h j hj => by
    rcases Nat.lt_or_ge j k with h' | h'
    ·exact hall.out j h'
    ·obtain rfl : j = k := by omega
     exact h
   have BAD := hiD bad
   have NEXT := hiD next
   clear bad next
   rcases byte_class (bt s k) with hc | hc | hc | hc | hc | hc | hc
   ·have e1 : decide (65 ≤ bt s k) = false := by simp; omega
    have e2 : decide (bt s k ≤ 90) = true := by simp; omega
    have e3 : decide (97 ≤ bt s k) = false := by simp; omega
    have e4 : decide (bt s k ≤ 122) = true := by simp; omega
    have e5 : decide (48 ≤ bt s k) = false := by simp; omega
    have e6 : decide (bt s k ≤ 57) = true := by simp; omega
    exact tZ124
   ·have e1 : decide (65 ≤ bt s k) = false := by simp; omega
    have e2 : decide (bt s k ≤ 90) = true := by simp; omega
    have e3 : decide (97 ≤ bt s k) = false := by simp; omega
    have e4 : decide (bt s k ≤ 122) = true := by simp; omega
    have e5 : decide (48 ≤ bt s k) = true := by simp; omega
    have e6 : decide (bt s k ≤ 57) = true := by simp; omega
    exact tZ76
   ·have e1 : decide (65 ≤ bt s k) = false := by simp; omega
    have e2 : decide (bt s k ≤ 90) = true := by simp; omega
    exact tZ115
   ·have e1 : decide (65 ≤ bt s k) = true := by simp; omega
    have e2 : decide (bt s k ≤ 90) = true := by simp; omega
    have e3 : decide (97 ≤ bt s k) = false := by simp; omega
    exact tZ34
   ·have e1 : decide (65 ≤ bt s k) = true := by simp; omega
    have e2 : decide (bt s k ≤ 90) = false := by simp; omega
    exact tZ115
   ·have e1 : decide (65 ≤ bt s k) = true := by simp; omega
    have e2 : decide (bt s k ≤ 90) = false := by simp; omega
    have e3 : decide (97 ≤ bt s k) = true := by simp; omega
    exact tZ34
   ·have e1 : decide (65 ≤ bt s k) = true := by simp; omega
    have e2 : decide (bt s k ≤ 90) = false := by simp; omega
    have e3 : decide (97 ≤ bt s k) = true := by simp; omega
    have e4 : decide (bt s k ≤ 122) = false := by simp; omega
    exact tZ25
  ·have hd : decide ((k : Int) < (s.size : Int)) = false := by simp; omega
   have hv : (List.range s.size).all (fun i => upB (bt s i) || loB (bt s i) || diB (bt s i)) = true := List.all_eq_true.2 fun j hj => hall.out j (by have := List.mem_range.1 hj; omega)
   have HV := hiD hv
   clear hv
   exact tZ61
theorem tZ57 {P : Prop} (h : P := by
 clear hk3
 go_wp2_with fail
 go_ret
 exact ⟨by rw [BAD.out (by simp [upB, loB, e1, e2, e3, e4, E8.out])]; rfl, hw.out⟩) : P := h
theorem tZ3 {P : Prop} (h : P := by
 clear hc
 by_cases hk3 : kind = 3
 ·have e7 : (kind != 3) = false := by simp [hk3]
  have E8 := hiD (show decide (kind ≠ 3) = false by simp [hk3])
  exact tZ57
 ·have e7 : (kind != 3) = true := by simp [hk3]
  have E8 := hiD (show decide (kind ≠ 3) = true by simp [hk3])
  exact tZ57) : P := h
theorem tZ33 {P : Prop} (h : P := by
 have e3 : decide (97 ≤ bt s k) = false := by simp; omega
 have e4 : decide (bt s k ≤ 122) = true := by simp; omega
 exact tZ3) : P := h
theorem tZ107 {P : Prop} (h : P := by
 have h3 : decide (1 ≤ s.size) = true := by simp; omega
 have h4 : decide (s.size ≤ 8) = true := by simp; omega
 rw [textB, h3, h4]; rfl) : P := h
set_option maxHeartbeats 2000000 in
theorem validText_call (kind : Int) (s : ByteArray) (w : World) : Calls Tryz.prog 137 #[.int .i64 kind, .string s] w fun e w' => e = .returned (.bool (textB kind s)) ∧ w' = w := by
 have hb := get_bt s
 by_cases h1 : s.size < 1
 ·have d1 : decide ((s.size : Int) < 1) = true := by simp; omega
  have hv : textB kind s = false := by simp [textB]; omega
  rw [hv]
  go_enter Tryz.func137, Tryz.ntmps137
  exact tZ49
 have d1 : decide ((s.size : Int) < 1) = false := by simp; omega
 by_cases h2 : 8 < s.size
 ·have d2 : decide (8 < (s.size : Int)) = true := by simp; omega
  have hv : textB kind s = false := by simp [textB]; omega
  rw [hv]
  go_enter Tryz.func137, Tryz.ntmps137
  exact tZ49
 have d2 : decide (8 < (s.size : Int)) = false := by simp; omega
 have hv : textB kind s = (List.range s.size).all fun i => loB (bt s i) || (decide (kind ≠ 3) && upB (bt s i)) := by
  exact tZ107
 rw [hv]
 clear hv
 go_enter Tryz.func137, Tryz.ntmps137
 go_wp2
 go_loopw [5] (fun i wr => ∃ k : Nat, i = .int .i64 k ∧ k ≤ s.size ∧ Hid (wr = w) ∧ Hid (∀ j, j < k → (loB (bt s j) || (decide (kind ≠ 3) && upB (bt s j))) = true)) (fun i _ => s.size - (intOf i).toNat)
 case atStart => exact ⟨0, rfl, Nat.zero_le _, rfl, fun j hj => by omega⟩
 case round =>
  obtain ⟨k, rfl, hk, hw, hall⟩ := hrel
  by_cases hlt : k < s.size
  ·have hd : decide ((k : Int) < (s.size : Int)) = true := by simp; omega
   have bad : (loB (bt s k) || (decide (kind ≠ 3) && upB (bt s k))) = false → (List.range s.size).all (fun i => loB (bt s i) || (decide (kind ≠ 3) && upB (bt s i))) = false := fun h => by
    rw [List.all_eq_false]
    exact ⟨k, List.mem_range.2 hlt, by rw [h]; decide⟩
   have next : (loB (bt s k) || (decide (kind ≠ 3) && upB (bt s k))) = true → ∀ j, j < k + 1 → (loB (bt s j) || (decide (kind ≠ 3) && upB (bt s j))) = true := fun h j hj => by
    rcases Nat.lt_or_ge j k with h' | h'
    ·exact hall.out j h'
    ·obtain rfl : j = k := by omega
     exact h
   have BAD := hiD bad
   have NEXT := hiD next
   clear bad next
   rcases byte_class (bt s k) with hc | hc | hc | hc | hc | hc | hc
   ·have e1 : decide (65 ≤ bt s k) = false := by simp; omega
    have e2 : decide (bt s k ≤ 90) = true := by simp; omega
    exact tZ33
   ·have e1 : decide (65 ≤ bt s k) = false := by simp; omega
    have e2 : decide (bt s k ≤ 90) = true := by simp; omega
    exact tZ33
   ·have e1 : decide (65 ≤ bt s k) = false := by simp; omega
    have e2 : decide (bt s k ≤ 90) = true := by simp; omega
    exact tZ33
   ·have e1 : decide (65 ≤ bt s k) = true := by simp; omega
    have e2 : decide (bt s k ≤ 90) = true := by simp; omega
    have e3 : decide (97 ≤ bt s k) = false := by simp; omega
    have e4 : decide (bt s k ≤ 122) = true := by simp; omega
    clear hc
    by_cases hk3 : kind = 3
    ·have e7 : (kind != 3) = false := by simp [hk3]
     have E8 := hiD (show decide (kind ≠ 3) = false by simp [hk3])
     exact tZ57
    ·have e7 : (kind != 3) = true := by simp [hk3]
     have E8 := hiD (show decide (kind ≠ 3) = true by simp [hk3])
     clear hk3
     go_wp2_with fail
     go_roundw
     case rel => exact ⟨k + 1, by go_num, by omega, hw, NEXT.out (by simp [upB, loB, e1, e2, e3, e4, E8.out])⟩
     case measure => simp [intOf]; omega
   ·have e1 : decide (65 ≤ bt s k) = true := by simp; omega
    have e2 : decide (bt s k ≤ 90) = false := by simp; omega
    exact tZ33
   ·have e1 : decide (65 ≤ bt s k) = true := by simp; omega
    have e2 : decide (bt s k ≤ 90) = false := by simp; omega
    have e3 : decide (97 ≤ bt s k) = true := by simp; omega
    have e4 : decide (bt s k ≤ 122) = true := by simp; omega
    clear hc
    go_wp2_with fail
    go_roundw
    case rel => exact ⟨k + 1, by go_num, by omega, hw, NEXT.out (by simp [upB, loB, e1, e2, e3, e4])⟩
    case measure => simp [intOf]; omega
   ·have e1 : decide (65 ≤ bt s k) = true := by simp; omega
    have e2 : decide (bt s k ≤ 90) = false := by simp; omega
    have e3 : decide (97 ≤ bt s k) = true := by simp; omega
    have e4 : decide (bt s k ≤ 122) = false := by simp; omega
    exact tZ3
  ·have hd : decide ((k : Int) < (s.size : Int)) = false := by simp; omega
   have hv : (List.range s.size).all (fun i => loB (bt s i) || (decide (kind ≠ 3) && upB (bt s i))) = true := List.all_eq_true.2 fun j hj => hall.out j (by have := List.mem_range.1 hj; omega)
   have HV := hiD hv
   clear hv
   exact tZ61
end Go.Proofs.OGW
namespace Go.Proofs.OGW
open Go.RowKit Go.Sort OG Go.Shelf Go.PlainAid
attribute [local go_sem] sA fv sB sG sC Nat.zero_add
attribute [local go_sem ↓] ld66 ld51 st66 st51
structure Val where
 kind : Int
 text : ByteArray
 mn : Int
 mx : Int
abbrev vv (v : Val) : Value := .agg #[.int .i64 v.kind, .string v.text, .int .i64 v.mn, .int .i64 v.mx]
def meetB (a b : Val) : Bool := decide (a.kind = b.kind) && decide (a.text.toList = b.text.toList) && decide (a.mn ≤ b.mx) && decide (b.mn ≤ a.mx)
set_option maxHeartbeats 1000000 in
theorem of_call (v : Val) : Ans 176 #[vv v] (.agg #[.int .i64 v.kind, .string v.text]) := by
 intro w
 go_enter Tryz.func176, Tryz.ntmps176
 go_wp2
 refine bodyPost_ret (res_cell Tryz.isAgg266 Tryz.sizeOf266 Tryz.results176 rfl ?_) rfl ⟨rfl, ?_⟩
 ·go_simp
 ·exact gw
theorem eq9 (d : Nat) (a b : ByteArray) (w : World) : (Op.equalIn (d + 1) 9 (.string a) (.string b)).run Tryz.prog w = .ok (a.toList == b.toList) w := run_equalIn_string w d 9 a b Tryz.underlying9
theorem eqOf (a b : Int) (s t : ByteArray) (w : World) : (Op.equalIn 10000 266 (.agg #[.int .i64 a, .string s]) (.agg #[.int .i64 b, .string t])).run Tryz.prog w = .ok (decide (a = b) && decide (s.toList = t.toList)) w := by
 have e : (decide (a = b) && decide (s.toList = t.toList)) = ((a == b) && ((s.toList == t.toList) && true)) := by rw [Bool.eq_iff_iff]; simp
 rw [e, show (10000 : Nat) = 9999 + 1 from rfl, run_equalIn_agg w 9999 266 _ _ (by kernel_rfl) (by kernel_rfl)]
 simp only [Program.fieldsOf, Tryz.underlying266]
 refine eqf_cons (by simp) (part_cell Tryz.isAgg3 rfl w) (part_cell Tryz.isAgg3 rfl w) (eq3 _ _ _ _) ?_
 refine eqf_cons (by simp) (part_cell Tryz.isAgg9 rfl w) (part_cell Tryz.isAgg9 rfl w) (eq9 _ _ _ _) ?_
 exact eqf_nil
theorem eq266 (x y : Value) : binOp .eql 266 x y = eqlV 266 x y := rfl
theorem eqlOf (a b : Int) (s t : ByteArray) (w : World) : (eqlV 266 (.agg #[.int .i64 a, .string s]) (.agg #[.int .i64 b, .string t])).run Tryz.prog w = .ok (.bool (decide (a = b) && decide (s.toList = t.toList))) w := by
 rw [eqlV, run_eql_struct, eqOf]; rfl
theorem guard266 (op : BinOp) (x y : Operand) (xs ys : Array Value) (w : World) : (eqGuard op 266 x y (.agg xs) (.agg ys)).run Tryz.prog w = .ok () w := run_eqGuard_agg w op 266 x y xs ys (by kernel_rfl)
attribute [local go_sem ↓] eq266
attribute [local go_sem] eqlOf guard266
theorem tZ18 {P : Prop} (h : P := by
 go_enter Tryz.func140, Tryz.ntmps140
 go_wp2_with fail
 refine wp_region_quiet_grown mixed (by kernel_rfl) ?_
 repeat (go_big_quiet_step ((first | (go_at_call 176; first | (with_reducible exact h1.quiet) | (with_reducible exact h2.quiet)))))
 exact tZ120) : P := h
set_option maxHeartbeats 1000000 in
theorem meet_call (a b : Val) : Ans 140 #[vv a, vv b] (.bool (meetB a b)) := by
 intro w
 have h1 := of_call a
 have h2 := of_call b
 have hcase : ((decide (a.kind = b.kind) && decide (a.text.toList = b.text.toList)) = false ∧ meetB a b = false) ∨ ((decide (a.kind = b.kind) && decide (a.text.toList = b.text.toList)) = true ∧ b.mx < a.mn ∧ meetB a b = false) ∨
  ((decide (a.kind = b.kind) && decide (a.text.toList = b.text.toList)) = true ∧ a.mn ≤ b.mx ∧ meetB a b = decide (b.mn ≤ a.mx)) := by
  unfold meetB
  cases (decide (a.kind = b.kind) && decide (a.text.toList = b.text.toList))
  ·simp
  ·by_cases h : a.mn ≤ b.mx
   ·simp [h]
   ·exact .inr (.inl ⟨rfl, by omega, by simp [h]⟩)
 rcases hcase with ⟨c1, hv⟩ | ⟨c1, c2, hv⟩ | ⟨c1, c2, hv⟩
 ·rw [hv]
  clear hv
  exact tZ18
 ·rw [hv]
  clear hv
  have d2 : decide (a.mn ≤ b.mx) = false := by simp; omega
  clear c2
  exact tZ18
 ·rw [hv]
  clear hv
  have d2 : decide (a.mn ≤ b.mx) = true := by simp; omega
  clear c2
  exact tZ18
end Go.Proofs.OGW
namespace Go.Proofs.OGW
open Go.RowKit Go.Sort OG Go.Shelf Go.PlainAid
attribute [local go_sem] sA fv sB sG sC Nat.zero_add
attribute [local go_sem ↓] ld66 ld51 st66 st51
structure ValAt (w : World) (b o : Nat) (v : Val) : Prop where
 c0 : w.cell? ⟨b, o, none⟩ = some (.int .i64 v.kind)
 c1 : w.cell? ⟨b, o + 1, none⟩ = some (.string v.text)
 c2 : w.cell? ⟨b, o + 2, none⟩ = some (.int .i64 v.mn)
 c3 : w.cell? ⟨b, o + 3, none⟩ = some (.int .i64 v.mx)
theorem ValAt.gr {w w' : World} {b o : Nat} {v : Val} (hg : Gr w w') (h : ValAt w b o v) : ValAt w' b o v := ⟨hg.cell h.c0, hg.cell h.c1, hg.cell h.c2, hg.cell h.c3⟩
abbrev ValRow (w : World) (A : Option Addr) (xs : List Val) : Prop := Row 4 ValAt w A xs
theorem ValRow.gr {w w' : World} {A : Option Addr} {xs : List Val} (h : ValRow w A xs) (hg : Gr w w') : ValRow w' A xs := Row.mono h fun _ _ _ => ValAt.gr hg
structure PrV (w0 : World) (g : FuncId) (lb : Array Value) (p : Val → Bool) : Prop where
 ent : ∀ args w, (callFunc g args).run Tryz.prog w = .ok (.enter g args) w
 call : ∀ x w, Gr w0 w → Calls Tryz.prog g (#[vv x] ++ lb) w fun e w' => e = .returned (.bool (p x)) ∧ Gr w w'
def idxV (p : Val → Bool) (xs : List Val) : Int := match xs.findIdx? p with | some i => i | none => -1
theorem tZ37 {P : Prop} (h : P := by
 cases h : xs.findIdx? p with
 | none =>
   rw [List.findIdx?_eq_none_iff] at h
   have : xs.any p = false := by rw [List.any_eq_false]; intro x hx; simp [h x hx]
   simp [this]
 | some i =>
   obtain ⟨hi, hp, _⟩ := List.findIdx?_eq_some_iff_getElem.1 h
   have : xs.any p = true := List.any_eq_true.2 ⟨_, List.getElem_mem hi, hp⟩
   simp [this]) : P := h
theorem idxV_nn (p : Val → Bool) (xs : List Val) : decide (0 ≤ idxV p xs) = xs.any p := by
 unfold idxV
 exact tZ37
theorem tZ42 {P : Prop} (h : P := by
 have hkl : k < xs.length := by rw [HL.out]; exact hlt
 have hxk : xs[k] = x := by have := HX.out; rw [gE hkl] at this; exact Option.some.inj this
 refine List.findIdx?_eq_some_iff_getElem.2 ⟨hkl, by rw [hxk]; exact hpx, fun j hj => ?_⟩
 have := HN.out j (xs[j]'(by omega)) hj (gE _)
 simp [this]) : P := h
theorem tZ53 {P : Prop} (h : P := by
 refine ⟨k + 1, by go_num, by omega, HGR.out.trans hgw, fun j y hj hy => ?_⟩
 rcases Nat.lt_or_ge j k with h | h
 ·exact HN.out j y h hy
 ·obtain rfl : j = k := by omega
  rw [HX.out] at hy
  obtain rfl := Option.some.inj hy
  exact hpx) : P := h
theorem tZ66 {P : Prop} (h : P := by
 obtain ⟨j, hj, rfl⟩ := List.getElem_of_mem hx
 exact HN.out j _ (by have := HL.out; omega) (gE hj)) : P := h
set_option maxHeartbeats 1000000 in
theorem indexV_call (w0 : World) (g : FuncId) (lb : Array Value) (p : Val → Bool) (hP : PrV w0 g lb p) (A : Option Addr) (c : Nat) (xs : List Val) (w : World) (hg : Gr w0 w) (hr : ValRow w A xs) (len : Nat) (hl : xs.length = len) (hlen : len ≤ 1000000) :
 Calls Tryz.prog 175 #[.slice A len c, .func (.func g) #[] lb] w fun e w' => e = .returned (.int .i64 (idxV p xs)) ∧ Gr w w' := by
 have HP := hiD hP
 have HR := hiD hr
 have HL := hiD hl
 have HG := hiD hg
 have eg := hP.ent
 clear hP hr hl hg
 go_enter Tryz.func175, Tryz.ntmps175
 go_wp2
 go_loopw [8] (fun i wr => ∃ k : Nat, i = .int .i64 k ∧ k ≤ len ∧ Gr w wr ∧ Hid (∀ j x, j < k → xs[j]? = some x → p x = false)) (fun i _ => len - (intOf i).toNat)
 case atStart => exact ⟨0, rfl, Nat.zero_le _, Gr.refl _, fun j x hj => by omega⟩
 case round =>
  obtain ⟨k, rfl, hk, hgr, HN⟩ := hrel
  have HGR := hiD hgr
  clear hgr
  by_cases hlt : k < len
  ·obtain ⟨x, hx⟩ : ∃ x, xs[k]? = some x := ⟨_, gE (by rw [HL.out]; exact hlt)⟩
   obtain ⟨blk, off, rfl, hb⟩ := HR.out.2 k x hx
   have c0 := (hb.gr HGR.out).c0
   have c1 := (hb.gr HGR.out).c1
   have c2 := (hb.gr HGR.out).c2
   have c3 := (hb.gr HGR.out).c3
   have HX := hiD hx
   have hd : decide ((k : Int) < (len : Int)) = true := by simp; omega
   have hc := HP.out.call x wr (HG.out.trans HGR.out)
   have HC := hiD hc
   clear hx hb hc
   cases hpx : p x
   ·go_wp2_with (go_at_fn g; refine HC.out.mono ?_; rintro e w' ⟨rfl, hgw⟩)
    go_roundw
    case rel =>
     exact tZ53
    case measure => simp [intOf]; omega
   ·go_wp2_with (go_at_fn g; refine HC.out.mono ?_; rintro e w' ⟨rfl, hgw⟩)
    go_ret
    refine ⟨?_, HGR.out.trans hgw⟩
    have hf : xs.findIdx? p = some k := by
     exact tZ42
    simp [idxV, hf]
  ·obtain rfl : k = len := by omega
   have hd : decide ((k : Int) < (k : Int)) = false := by simp
   go_wp2_with fail
   go_ret
   refine ⟨?_, HGR.out⟩
   have hf : xs.findIdx? p = none := List.findIdx?_eq_none_iff.2 fun x hx => by
    exact tZ66
   simp [idxV, hf]
set_option maxHeartbeats 1000000 in
theorem containsV_call (w0 : World) (g : FuncId) (lb : Array Value) (p : Val → Bool) (hP : PrV w0 g lb p) (A : Option Addr) (c : Nat) (xs : List Val) (w : World) (hg : Gr w0 w) (hr : ValRow w A xs) (len : Nat) (hl : xs.length = len) (hlen : len ≤ 1000000) :
 Calls Tryz.prog 138 #[.slice A len c, .func (.func g) #[] lb] w fun e w' => e = .returned (.bool (xs.any p)) ∧ Gr w w' := by
 have H := hiD (indexV_call w0 g lb p hP A c xs w hg hr len hl hlen)
 have hn := idxV_nn p xs
 clear hP hr hl hg
 go_enter Tryz.func138, Tryz.ntmps138
 go_wp2_with (go_at_call 175; refine H.out.mono ?_; rintro e w' ⟨rfl, hgw⟩)
 go_ret
 exact ⟨by rw [← hn]; rfl, hgw⟩
set_option maxHeartbeats 1000000 in
theorem checkValue1_call (x y : Val) (b : Nat) (w : World) (hc : ValAt w b 0 y) : Calls Tryz.prog 139 #[vv x, .pointer (some ⟨b, 0, none⟩)] w fun e w' => e = .returned (.bool (meetB y x)) ∧ Gr w w' := by
 have hb := lcc w _ hc.c0
 have c0 := hc.c0
 have c1 := hc.c1
 have c2 := hc.c2
 have c3 := hc.c3
 have h1 := meet_call y x
 clear hc
 simp only [Nat.zero_add] at c1 c2 c3
 go_enter Tryz.func139, Tryz.ntmps139
 go_wp2_with (go_at_call 140; refine (h1 _).mono ?_; rintro e w' ⟨rfl, hgw⟩)
 go_ret
 refine ⟨rfl, Gr.trans ?_ hgw⟩
 exact gw
abbrev lv (most : Int) (A : Option Addr) (n c : Nat) : Value := .agg #[.int .i64 most, .slice A n c]
def valE (most : Int) (before : List Val) (v : Val) : Int :=
 if !(decide (1 ≤ v.kind) && decide (v.kind ≤ 3) && textB v.kind v.text) then 12
 else if !(decide (1 ≤ v.mn) && decide (v.mn ≤ v.mx) && decide (v.mx ≤ most)) then 13
 else if before.any (meetB v) then 12 else 0
theorem prv_meet (v : Val) (b : Nat) (w1 : World) (h : ValAt w1 b 0 v) : PrV w1 139 #[.pointer (some ⟨b, 0, none⟩)] (meetB v) where
 ent := ent_of Tryz.func139 (by kernel_rfl) rfl
 call := fun x w2 hg2 => checkValue1_call x v b w2 (ValAt.gr hg2 h)
theorem tZ26 {P : Prop} (h : P := by
 go_enter Tryz.func80, Tryz.ntmps80
 go_wp2_with (go_at_call 137; refine (HT.out _).mono ?_; rintro e w' ⟨rfl, rfl⟩)
 go_ret
 refine ⟨rfl, ?_⟩
 exact gw) : P := h
theorem tZ29 {P : Prop} (h : P := by
 simp only [Bool.false_eq_true, if_true, if_false]
 go_enter Tryz.func80, Tryz.ntmps80
 go_wp2_with (first | (go_at_call 137; refine (HT.out _).mono ?_; rintro e w' ⟨rfl, rfl⟩) | (go_at_call 138; refine (HCS.out _ (((Gr.refl w).alloc _).alloc _) _ (by go_simp) (by go_simp) (by go_simp) (by go_simp)).mono ?_; rw [E7.out]; rintro e w' ⟨rfl, hgw⟩))
 go_ret
 exact ⟨rfl, (((Gr.refl w).alloc _).alloc _).trans hgw⟩) : P := h
theorem tZ73 {P : Prop} (h : P := by
 go_wp2_with fail
 go_ret
 refine ⟨rfl, ?_⟩
 exact gw) : P := h
theorem tZ94 {P : Prop} (h : P := by
 simp [valE, this, E1.out, E2.out, E3.out]) : P := h
set_option maxHeartbeats 2000000 in
theorem checkValue_call (most : Int) (A : Option Addr) (n c : Nat) (B : Option Addr) (bc : Nat) (before : List Val) (v : Val) (w : World) (hr : ValRow w B before) (len : Nat) (hl : before.length = len) (hlen : len ≤ 1000000) :
 Calls Tryz.prog 80 #[lv most A n c, .slice B len bc, vv v] w fun e w' => e = .returned (.int .i64 (valE most before v)) ∧ Gr w w' := by
 have HR := hiD hr
 have HL := hiD hl
 have ht := validText_call v.kind v.text
 have HT := hiD ht
 clear hr hl ht
 by_cases h1 : v.kind < 1
 ·have hv : valE most before v = 12 := by
   have : decide (1 ≤ v.kind) = false := by simp; omega
   simp [valE, this]
  have d1 : decide (v.kind < 1) = true := by simp; omega
  rw [hv]
  clear hv h1
  go_enter Tryz.func80, Tryz.ntmps80
  exact tZ73
 have d1 : decide (v.kind < 1) = false := by simp; omega
 by_cases h2 : 3 < v.kind
 ·have hv : valE most before v = 12 := by
   have : decide (v.kind ≤ 3) = false := by simp; omega
   simp [valE, this]
  have d2 : decide (3 < v.kind) = true := by simp; omega
  rw [hv]
  clear hv h2 h1
  go_enter Tryz.func80, Tryz.ntmps80
  exact tZ73
 have d2 : decide (3 < v.kind) = false := by simp; omega
 have E1 := hiD (show decide (1 ≤ v.kind) = true by simp; omega)
 have E2 := hiD (show decide (v.kind ≤ 3) = true by simp; omega)
 clear h1 h2
 cases h3 : textB v.kind v.text
 ·have hv : valE most before v = 12 := by simp [valE, h3]
  rw [hv]
  clear hv
  exact tZ26
 have E3 := hiD h3
 by_cases h4 : v.mn < 1
 ·have hv : valE most before v = 13 := by
   have : decide (1 ≤ v.mn) = false := by simp; omega
   exact tZ94
  have d4 : decide (v.mn < 1) = true := by simp; omega
  rw [hv]
  clear hv h4
  exact tZ26
 have d4 : decide (v.mn < 1) = false := by simp; omega
 have E4 := hiD (show decide (1 ≤ v.mn) = true by simp; omega)
 clear h4
 by_cases h5 : v.mx < v.mn
 ·have hv : valE most before v = 13 := by
   have : decide (v.mn ≤ v.mx) = false := by simp; omega
   exact tZ94
  have d5 : decide (v.mx < v.mn) = true := by simp; omega
  rw [hv]
  clear hv h5
  exact tZ26
 have d5 : decide (v.mx < v.mn) = false := by simp; omega
 have E5 := hiD (show decide (v.mn ≤ v.mx) = true by simp; omega)
 clear h5
 by_cases h6 : most < v.mx
 ·have hv : valE most before v = 13 := by
   have : decide (v.mx ≤ most) = false := by simp; omega
   exact tZ94
  have d6 : decide (most < v.mx) = true := by simp; omega
  rw [hv]
  clear hv h6
  exact tZ26
 have d6 : decide (most < v.mx) = false := by simp; omega
 have E6 := hiD (show decide (v.mx ≤ most) = true by simp; omega)
 clear h6
 have hv : valE most before v = if before.any (meetB v) then 12 else 0 := by
  simp [valE, E1.out, E2.out, E3.out, E4.out, E5.out, E6.out]
 rw [hv]
 clear hv
 have hcs : ∀ w1, Gr w w1 → ∀ b, w1.cell? ⟨b, 0, none⟩ = some (.int .i64 v.kind) → w1.cell? ⟨b, 1, none⟩ = some (.string v.text) → w1.cell? ⟨b, 2, none⟩ = some (.int .i64 v.mn) → w1.cell? ⟨b, 3, none⟩ = some (.int .i64 v.mx) →
  Calls Tryz.prog 138 #[.slice B len bc, .func (.func 139) #[] #[.pointer (some ⟨b, 0, none⟩)]] w1 fun e w' => e = .returned (.bool (before.any (meetB v))) ∧ Gr w1 w' := by
  intro w1 hg b c0 c1 c2 c3
  exact containsV_call w1 139 _ (meetB v) (prv_meet v b w1 ⟨c0, c1, c2, c3⟩) B bc before w1 (Gr.refl _) (HR.out.gr hg) len HL.out hlen
 have HCS := hiD hcs
 clear hcs
 cases h7 : before.any (meetB v)
 ·have E7 := hiD h7
  clear h7
  exact tZ29
 ·have E7 := hiD h7
  clear h7
  exact tZ29
structure Sg where
 code : ByteArray
 wide : Int
 high : Int
 flag : Bool
 vals : List Val
structure SgAt (w : World) (b o : Nat) (s : Sg) : Prop where
 c0 : w.cell? ⟨b, o, none⟩ = some (.string s.code)
 c1 : w.cell? ⟨b, o + 1, none⟩ = some (.int .i64 s.wide)
 c2 : w.cell? ⟨b, o + 2, none⟩ = some (.int .i64 s.high)
 c3 : w.cell? ⟨b, o + 3, none⟩ = some (.bool s.flag)
 c4 : ∃ A c, w.cell? ⟨b, o + 4, none⟩ = some (.slice A s.vals.length c) ∧ s.vals.length ≤ c ∧ ValRow w A s.vals
theorem SgAt.gr {w w' : World} {b o : Nat} {s : Sg} (hg : Gr w w') (h : SgAt w b o s) : SgAt w' b o s :=
 ⟨hg.cell h.c0, hg.cell h.c1, hg.cell h.c2, hg.cell h.c3, by obtain ⟨A, c, h1, h2, h3⟩ := h.c4; exact ⟨A, c, hg.cell h1, h2, h3.gr hg⟩⟩
abbrev SgRow (w : World) (A : Option Addr) (xs : List Sg) : Prop := Row 5 SgAt w A xs
theorem SgRow.gr {w w' : World} {A : Option Addr} {xs : List Sg} (h : SgRow w A xs) (hg : Gr w w') : SgRow w' A xs := Row.mono h fun _ _ _ => SgAt.gr hg
def valsE (most : Int) : List Val → List Val → Int
 | _, [] => 0
 | before, v :: r => if valE most before v = 0 then valsE most (before ++ [v]) r else valE most before v
def sizeBad (s : Sg) : Bool := decide (s.wide < 1) || decide (12 < s.wide) || decide (s.high < 1) || decide (12 < s.high)
def signsE (most : Int) : List ByteArray → List Sg → Int
 | _, [] => 0
 | seen, s :: r => if !codeB s.code || seen.any (fun t => decide (t.data.toList = s.code.data.toList)) then 10 else if sizeBad s then 11 else if 12 < s.vals.length then 2
    else if valsE most [] s.vals = 0 then signsE most (seen ++ [s.code]) r else valsE most [] s.vals
def listE (most : Int) (l : List Sg) : Int := if 200 < l.length then 2 else if most < 1 ∨ 9 < most then 13 else signsE most [] l
structure SeenM (w : World) (b : Nat) (codes : List ByteArray) : Prop where
 own : ∃ n D, w.ownsMap (H := Nat) Tryz.prog 9 (plainElem Tryz.prog 3) b n D ∧ n ≤ codes.length ∧ Maps.IsMap D ∧ ∀ t : ByteArray, D.atKey (.string t.data.toList) (.lit (.int .i64 0)) = .lit (.int .i64 ((codes.countP fun u => decide (u.data.toList = t.data.toList) : Nat) : Int))
theorem seen_made (w : World) : SeenM (w.alloc (.map #[] 0)) w.heap.size [] :=
 ⟨0, _, World.ownsMap_made w Tryz.prog 9 _, Nat.le_refl _, Maps.isMap_empty, fun t => rfl⟩
theorem SeenM.kept {w w' : World} {b : Nat} {codes : List ByteArray} {row : Option Nat} (h : SeenM w b codes) (hg : w.grownBy w' row) (hne : some b ≠ row) : SeenM w' b codes := by
 obtain ⟨n, D, h1, h2⟩ := h.own
 exact ⟨n, D, h1.kept hg hne, h2⟩
theorem SeenM.look {w : World} {b : Nat} {codes : List ByteArray} (h : SeenM w b codes) (t : ByteArray) (ht : t.size ≤ 8) :
 (Instr.lookup 137 (.map (some b)) (.string t) false).run Tryz.prog w = .ok (.int .i64 ((codes.countP fun u => decide (u.data.toList = t.data.toList) : Nat) : Int)) w := by
 obtain ⟨n, D, h1, h2, h3, h4⟩ := h.own
 have hk : keyOf Tryz.prog 9 (.string t) = some (.string t.data.toList) := Go.WideMaps.keyOf_string_mk Tryz.underlying9 (by unfold maxLen; omega)
 obtain ⟨c, hrun, hat, _⟩ := h1.lookup_int (Maps.string_keyed Tryz.underlying9) Tryz.underlying137 Tryz.underlying3 (Tryz.zeroValue3 w) hk
 rw [h4 t] at hat
 simp only [DataW.lit.injEq, Lit.int.injEq, true_and] at hat
 rw [hrun, hat]
theorem SeenM.add {w : World} {b : Nat} {codes : List ByteArray} (h : SeenM w b codes) (hl : codes.length ≤ 1000) (t : ByteArray) (ht : t.size ≤ 8) (hno : (codes.countP fun u => decide (u.data.toList = t.data.toList)) = 0) :
 ∃ w', (Instr.mapUpdate 137 (.map (some b)) (.string t) (.int .i64 1)).run Tryz.prog w = .ok () w' ∧ SeenM w' b (codes ++ [t]) ∧ w.grownBy w' (some b) ∧ w'.drawn = w.drawn := by
 obtain ⟨n, D, h1, h2, h3, h4⟩ := h.own
 have hk : keyOf Tryz.prog 9 (.string t) = some (.string t.data.toList) := Go.WideMaps.keyOf_string_mk Tryz.underlying9 (by unfold maxLen; omega)
 have hv : plainElem (H := Nat) Tryz.prog 3 (.int .i64 1) = some (.lit (.int .i64 1), []) := plainElem_int Tryz.underlying3 (by decide)
 obtain ⟨w', hrun, r1, r2⟩ := h1.update (Maps.string_keyed Tryz.underlying9) Tryz.underlying137 (by unfold maxLen; omega) hk hv
 refine ⟨w', hrun, ⟨n + 1, _, r1, by simp; omega, h3.put _ _, fun u => ?_⟩, r2, ?_⟩
 ·by_cases hu : u.data.toList = t.data.toList
  ·rw [hu, Maps.atKey_put_same h3 (by trivial)]
   simp only [hno, List.countP_append, List.countP_singleton]
   simp
  ·rw [Maps.atKey_put_other (by simpa using hu), h4 u]
   have hu2 : decide (t.data.toList = u.data.toList) = false := by simpa using fun e => hu (by rw [e])
   rw [List.countP_append, List.countP_singleton, hu2]
   rfl
 ·obtain ⟨es, clock, hb, F, hs, rfl⟩ := h1
  obtain ⟨es', clock', hrun', _⟩ := Maps.fit_store (R' := plainElem Tryz.prog 3) (Maps.string_keyed Tryz.underlying9) Tryz.underlying137 hb F (by unfold maxLen; omega) (fun _ _ _ _ hz => hz) hk hv
  rw [hrun'] at hrun
  simp only [Result.ok.injEq, true_and] at hrun
  rw [← hrun]
  rfl
end Go.Proofs.OGW
