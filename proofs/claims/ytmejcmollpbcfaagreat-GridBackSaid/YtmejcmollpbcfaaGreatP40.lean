import Derived.Test.YtmejcmollpbcfaaGreatP39
set_option linter.all false
namespace Go.Proofs.OGW
open Go.RowKit Go.Sort OG Go.Shelf Go.PlainAid
attribute [local go_sem] sA fv sB sG sC Nat.zero_add neqN guard51
attribute [local go_sem ↓] ld66 ld51 st66 st51 eq51 ne51
def fieldE (l : List Sg) (n : Nd) : Int :=
 if n.lf.kind = 1 then
  if n.lf.sign < 0 then 23 else match l[n.lf.sign.toNat]? with
   | none => 23
   | some s => if n.lf.turn < 0 ∨ 3 < n.lf.turn ∨ n.lf.state < 0 ∨ 3 < n.lf.state ∨ (n.lf.mirror = true ∧ s.flag = true) then 20
      else if n.lf.mn ≠ 0 ∨ n.lf.mx ≠ 0 then 20 else 0
 else if n.lf.kind = 6 then if n.lf.mn < 0 ∨ n.lf.mx < n.lf.mn ∨ 9 < n.lf.mx ∨ n.lf.mx < 1 then 22 else if n.lf.sign ≠ 0 ∨ n.lf.turn ≠ 0 ∨ n.lf.mirror = true ∨ n.lf.state ≠ 0 then 20 else 0
 else if n.lf.sign = 0 ∧ n.lf.turn = 0 ∧ n.lf.mirror = false ∧ n.lf.state = 0 ∧ n.lf.mn = 0 ∧ n.lf.mx = 0 then 0 else 20
theorem nodeE_rest (l : List Sg) {t : Int} {n : Nd} (h1 : ¬ (n.lf.kind < 1 ∨ 7 < n.lf.kind)) (h2 : ¬ (n.depth < 0 ∨ 4 < n.depth ∨ t < n.depth)) : nodeE l t n = fieldE l n := by
 unfold nodeE
 rw [if_neg h1, if_neg h2]
 rfl
theorem fieldE_none {l : List Sg} {n : Nd} (h1 : n.lf.kind = 1) (h : n.lf.sign < 0 ∨ l[n.lf.sign.toNat]? = none) : fieldE l n = 23 := by
 unfold fieldE
 rw [if_pos h1]
 by_cases h0 : n.lf.sign < 0
 ·rw [if_pos h0]
 ·rw [if_neg h0]
  rcases h with h | h
  ·exact absurd h h0
  ·rw [h]
theorem fieldE_some {l : List Sg} {n : Nd} {s : Sg} (h1 : n.lf.kind = 1) (h0 : 0 ≤ n.lf.sign) (h : l[n.lf.sign.toNat]? = some s) : fieldE l n = if n.lf.turn < 0 ∨ 3 < n.lf.turn ∨ n.lf.state < 0 ∨ 3 < n.lf.state ∨ (n.lf.mirror = true ∧ s.flag = true) then 20
 else if n.lf.mn ≠ 0 ∨ n.lf.mx ≠ 0 then 20 else 0 := by
 unfold fieldE
 rw [if_pos h1, if_neg (by omega), h]
theorem tZ106 {P : Prop} (h : P := by
 subst hv
 clear hz
 exact tZ8) : P := h
theorem tZ1 {P : Prop} (h : P := by
 have HGC := hiD hgc
 have hs1 := lcc wc _ c0
 have hs0 := lcc wc _ m0
 clear hgc hat
 by_cases hk1 : n.lf.kind = 1
 ·have k1 : (n.lf.kind == 1) = true := by simp [hk1]
  have k6 : (n.lf.kind == 6) = false := by simp [hk1]
  by_cases hs : n.lf.sign < 0
  ·have e1 : decide (n.lf.sign < 0) = true := by simp [hs]
   have hv : te = 23 := by rw [HV.out]; exact fieldE_none hk1 (.inl hs)
   subst hv
   clear hk1 hs
   exact tZ8
  ·have e1 : decide (n.lf.sign < 0) = false := by simp; omega
   cases hl : l[n.lf.sign.toNat]? with
   | none =>
     have e2 : decide ((sn : Int) ≤ n.lf.sign) = true := by have := List.getElem?_eq_none_iff.1 hl; have := HE.out.sl; simp; omega
     have hv : te = 23 := by rw [HV.out]; exact fieldE_none hk1 (.inr hl)
     subst hv
     clear hk1 hs hl
     exact tZ8
   | some s =>
     have hsl := (gO hl).1
     have hsl2 : n.lf.sign.toNat < sn := by rw [← HE.out.sl]; exact hsl
     have e2 : decide ((sn : Int) ≤ n.lf.sign) = false := by simp; omega
     have hv := HV.out
     rw [fieldE_some hk1 (by omega) hl] at hv
     obtain ⟨sb, so, rfl, hsg⟩ := (HE.out.sg.gr HGC.out).2 _ s hl
     have g3 := hsg.c3
     have hsb := lcc wc _ g3
     have z1 : n.lf.sign < (sn : Int) := by omega
     have z2 : (0 : Int) ≤ n.lf.sign := by omega
     have HV2 := hiD hv
     clear hk1 hs hl hv hsg hsl HV
     by_cases t0 : n.lf.turn < 0
     ·have ft0 : decide (n.lf.turn < 0) = true := by simp [t0]
      have hv : te = 20 := by rw [HV2.out]; grind
      subst hv
      clear t0
      exact tZ8
     have ft0 : decide (n.lf.turn < 0) = false := by simp only [decide_eq_false_iff_not]; exact t0
     by_cases t3 : 3 < n.lf.turn
     ·have ft3 : decide (3 < n.lf.turn) = true := by simp [t3]
      have hv : te = 20 := by rw [HV2.out]; grind
      subst hv
      clear t3
      exact tZ8
     have ft3 : decide (3 < n.lf.turn) = false := by simp only [decide_eq_false_iff_not]; exact t3
     by_cases s0 : n.lf.state < 0
     ·have fs0 : decide (n.lf.state < 0) = true := by simp [s0]
      have hv : te = 20 := by rw [HV2.out]; grind
      subst hv
      clear s0
      exact tZ8
     have fs0 : decide (n.lf.state < 0) = false := by simp only [decide_eq_false_iff_not]; exact s0
     by_cases s3 : 3 < n.lf.state
     ·have fs3 : decide (3 < n.lf.state) = true := by simp [s3]
      have hv : te = 20 := by rw [HV2.out]; grind
      subst hv
      clear s3
      exact tZ8
     have fs3 : decide (3 < n.lf.state) = false := by simp only [decide_eq_false_iff_not]; exact s3
     cases hm : n.lf.mirror
     ·rw [hm] at c4 HV2
      by_cases hz : n.lf.mn = 0 ∧ n.lf.mx = 0
      ·have fz : nodeNe 0 0 0 0 false 0 n.lf.mn n.lf.mx 0 0 0 0 false 0 0 0 = false := by simp [nodeNe, hz]
       have hv : te = 0 := by rw [HV2.out]; grind
       exact tZ106
      ·have fz : nodeNe 0 0 0 0 false 0 n.lf.mn n.lf.mx 0 0 0 0 false 0 0 0 = true := by simp [nodeNe]; grind
       have hv : te = 20 := by rw [HV2.out]; grind
       exact tZ106
     ·rw [hm] at c4 HV2
      cases hf : s.flag
      ·rw [hf] at g3 HV2
       by_cases hz : n.lf.mn = 0 ∧ n.lf.mx = 0
       ·have fz : nodeNe 0 0 0 0 false 0 n.lf.mn n.lf.mx 0 0 0 0 false 0 0 0 = false := by simp [nodeNe, hz]
        have hv : te = 0 := by rw [HV2.out]; grind
        exact tZ106
       ·have fz : nodeNe 0 0 0 0 false 0 n.lf.mn n.lf.mx 0 0 0 0 false 0 0 0 = true := by simp [nodeNe]; grind
        have hv : te = 20 := by rw [HV2.out]; grind
        exact tZ106
      ·rw [hf] at g3 HV2
       have hv : te = 20 := by rw [HV2.out]; grind
       subst hv
       exact tZ8
 have k1 : (n.lf.kind == 1) = false := by simp [hk1]
 by_cases hk6 : n.lf.kind = 6
 ·have k6 : (n.lf.kind == 6) = true := by simp [hk6]
  by_cases a0 : n.lf.mn < 0
  ·have fa0 : decide (n.lf.mn < 0) = true := by simp [a0]
   have hv : te = 22 := by rw [HV.out]; unfold fieldE; grind
   subst hv
   clear a0
   exact tZ8
  have fa0 : decide (n.lf.mn < 0) = false := by simp only [decide_eq_false_iff_not]; exact a0
  by_cases a1 : n.lf.mx < n.lf.mn
  ·have fa1 : decide (n.lf.mx < n.lf.mn) = true := by simp [a1]
   have hv : te = 22 := by rw [HV.out]; unfold fieldE; grind
   subst hv
   clear a1
   exact tZ8
  have fa1 : decide (n.lf.mx < n.lf.mn) = false := by simp only [decide_eq_false_iff_not]; exact a1
  by_cases a2 : n.lf.mx < 1
  ·have fa2 : decide (n.lf.mx < 1) = true := by simp [a2]
   have hv : te = 22 := by rw [HV.out]; unfold fieldE; grind
   subst hv
   clear a2
   exact tZ8
  have fa2 : decide (n.lf.mx < 1) = false := by simp only [decide_eq_false_iff_not]; exact a2
  by_cases a3 : 9 < n.lf.mx
  ·have fa3 : decide (9 < n.lf.mx) = true := by simp [a3]
   have hv : te = 22 := by rw [HV.out]; unfold fieldE; grind
   subst hv
   clear a3
   exact tZ8
  have fa3 : decide (9 < n.lf.mx) = false := by simp only [decide_eq_false_iff_not]; exact a3
  by_cases hz : n.lf.sign = 0 ∧ n.lf.turn = 0 ∧ n.lf.mirror = false ∧ n.lf.state = 0
  ·have fz : nodeNe 0 0 n.lf.sign n.lf.turn n.lf.mirror n.lf.state 0 0 0 0 0 0 false 0 0 0 = false := by simp [nodeNe, hz]
   have hv : te = 0 := by rw [HV.out]; unfold fieldE; grind
   exact tZ106
  ·have fz : nodeNe 0 0 n.lf.sign n.lf.turn n.lf.mirror n.lf.state 0 0 0 0 0 0 false 0 0 0 = true := by simp [nodeNe]; grind
   have hv : te = 20 := by rw [HV.out]; unfold fieldE; grind
   exact tZ106
 ·have k6 : (n.lf.kind == 6) = false := by simp [hk6]
  by_cases hz : n.lf.sign = 0 ∧ n.lf.turn = 0 ∧ n.lf.mirror = false ∧ n.lf.state = 0 ∧ n.lf.mn = 0 ∧ n.lf.mx = 0
  ·have fz : nodeNe 0 0 n.lf.sign n.lf.turn n.lf.mirror n.lf.state n.lf.mn n.lf.mx 0 0 0 0 false 0 0 0 = false := by simp [nodeNe, hz]
   have hv : te = 0 := by rw [HV.out]; unfold fieldE; grind
   exact tZ106
  ·have fz : nodeNe 0 0 n.lf.sign n.lf.turn n.lf.mirror n.lf.state n.lf.mn n.lf.mx 0 0 0 0 false 0 0 0 = true := by simp [nodeNe]; grind
   have hv : te = 20 := by rw [HV.out]; unfold fieldE; grind
   exact tZ106) : P := h
theorem tZ0 {P : Prop} (h : P := by
 simp only [Nat.add_assoc, Nat.reduceAdd]
 have c0 : (Sort.grow (((((w.alloc (.cells #[.int .i64 most, .slice SA sn sc] 24)).alloc (.cells #[.slice (some ⟨blk, off, none⟩) len c] 33)).alloc (.cells #[.int .i64 n.lf.kind, .int .i64 n.depth, .int .i64 n.lf.sign, .int .i64 n.lf.turn, .bool n.lf.mirror, .int .i64 n.lf.state, .int .i64 n.lf.mn, .int .i64 n.lf.mx] 51)).alloc (.cells #[.int .i64 p.lf.kind, .int .i64 p.depth, .int .i64 p.lf.sign, .int .i64 p.lf.turn, .bool p.lf.mirror, .int .i64 p.lf.state, .int .i64 p.lf.mn, .int .i64 p.lf.mx] 51)).drewN q1) os1).cell? ⟨w.heap.size + 2, 0, none⟩ = some (.int .i64 n.lf.kind) := by go_simp
 have c1 : (Sort.grow (((((w.alloc (.cells #[.int .i64 most, .slice SA sn sc] 24)).alloc (.cells #[.slice (some ⟨blk, off, none⟩) len c] 33)).alloc (.cells #[.int .i64 n.lf.kind, .int .i64 n.depth, .int .i64 n.lf.sign, .int .i64 n.lf.turn, .bool n.lf.mirror, .int .i64 n.lf.state, .int .i64 n.lf.mn, .int .i64 n.lf.mx] 51)).alloc (.cells #[.int .i64 p.lf.kind, .int .i64 p.depth, .int .i64 p.lf.sign, .int .i64 p.lf.turn, .bool p.lf.mirror, .int .i64 p.lf.state, .int .i64 p.lf.mn, .int .i64 p.lf.mx] 51)).drewN q1) os1).cell? ⟨w.heap.size + 2, 1, none⟩ = some (.int .i64 n.depth) := by go_simp
 have c2 : (Sort.grow (((((w.alloc (.cells #[.int .i64 most, .slice SA sn sc] 24)).alloc (.cells #[.slice (some ⟨blk, off, none⟩) len c] 33)).alloc (.cells #[.int .i64 n.lf.kind, .int .i64 n.depth, .int .i64 n.lf.sign, .int .i64 n.lf.turn, .bool n.lf.mirror, .int .i64 n.lf.state, .int .i64 n.lf.mn, .int .i64 n.lf.mx] 51)).alloc (.cells #[.int .i64 p.lf.kind, .int .i64 p.depth, .int .i64 p.lf.sign, .int .i64 p.lf.turn, .bool p.lf.mirror, .int .i64 p.lf.state, .int .i64 p.lf.mn, .int .i64 p.lf.mx] 51)).drewN q1) os1).cell? ⟨w.heap.size + 2, 2, none⟩ = some (.int .i64 n.lf.sign) := by go_simp
 have c3 : (Sort.grow (((((w.alloc (.cells #[.int .i64 most, .slice SA sn sc] 24)).alloc (.cells #[.slice (some ⟨blk, off, none⟩) len c] 33)).alloc (.cells #[.int .i64 n.lf.kind, .int .i64 n.depth, .int .i64 n.lf.sign, .int .i64 n.lf.turn, .bool n.lf.mirror, .int .i64 n.lf.state, .int .i64 n.lf.mn, .int .i64 n.lf.mx] 51)).alloc (.cells #[.int .i64 p.lf.kind, .int .i64 p.depth, .int .i64 p.lf.sign, .int .i64 p.lf.turn, .bool p.lf.mirror, .int .i64 p.lf.state, .int .i64 p.lf.mn, .int .i64 p.lf.mx] 51)).drewN q1) os1).cell? ⟨w.heap.size + 2, 3, none⟩ = some (.int .i64 n.lf.turn) := by go_simp
 have c4 : (Sort.grow (((((w.alloc (.cells #[.int .i64 most, .slice SA sn sc] 24)).alloc (.cells #[.slice (some ⟨blk, off, none⟩) len c] 33)).alloc (.cells #[.int .i64 n.lf.kind, .int .i64 n.depth, .int .i64 n.lf.sign, .int .i64 n.lf.turn, .bool n.lf.mirror, .int .i64 n.lf.state, .int .i64 n.lf.mn, .int .i64 n.lf.mx] 51)).alloc (.cells #[.int .i64 p.lf.kind, .int .i64 p.depth, .int .i64 p.lf.sign, .int .i64 p.lf.turn, .bool p.lf.mirror, .int .i64 p.lf.state, .int .i64 p.lf.mn, .int .i64 p.lf.mx] 51)).drewN q1) os1).cell? ⟨w.heap.size + 2, 4, none⟩ = some (.bool n.lf.mirror) := by go_simp
 have c5 : (Sort.grow (((((w.alloc (.cells #[.int .i64 most, .slice SA sn sc] 24)).alloc (.cells #[.slice (some ⟨blk, off, none⟩) len c] 33)).alloc (.cells #[.int .i64 n.lf.kind, .int .i64 n.depth, .int .i64 n.lf.sign, .int .i64 n.lf.turn, .bool n.lf.mirror, .int .i64 n.lf.state, .int .i64 n.lf.mn, .int .i64 n.lf.mx] 51)).alloc (.cells #[.int .i64 p.lf.kind, .int .i64 p.depth, .int .i64 p.lf.sign, .int .i64 p.lf.turn, .bool p.lf.mirror, .int .i64 p.lf.state, .int .i64 p.lf.mn, .int .i64 p.lf.mx] 51)).drewN q1) os1).cell? ⟨w.heap.size + 2, 5, none⟩ = some (.int .i64 n.lf.state) := by go_simp
 have c6 : (Sort.grow (((((w.alloc (.cells #[.int .i64 most, .slice SA sn sc] 24)).alloc (.cells #[.slice (some ⟨blk, off, none⟩) len c] 33)).alloc (.cells #[.int .i64 n.lf.kind, .int .i64 n.depth, .int .i64 n.lf.sign, .int .i64 n.lf.turn, .bool n.lf.mirror, .int .i64 n.lf.state, .int .i64 n.lf.mn, .int .i64 n.lf.mx] 51)).alloc (.cells #[.int .i64 p.lf.kind, .int .i64 p.depth, .int .i64 p.lf.sign, .int .i64 p.lf.turn, .bool p.lf.mirror, .int .i64 p.lf.state, .int .i64 p.lf.mn, .int .i64 p.lf.mx] 51)).drewN q1) os1).cell? ⟨w.heap.size + 2, 6, none⟩ = some (.int .i64 n.lf.mn) := by go_simp
 have c7 : (Sort.grow (((((w.alloc (.cells #[.int .i64 most, .slice SA sn sc] 24)).alloc (.cells #[.slice (some ⟨blk, off, none⟩) len c] 33)).alloc (.cells #[.int .i64 n.lf.kind, .int .i64 n.depth, .int .i64 n.lf.sign, .int .i64 n.lf.turn, .bool n.lf.mirror, .int .i64 n.lf.state, .int .i64 n.lf.mn, .int .i64 n.lf.mx] 51)).alloc (.cells #[.int .i64 p.lf.kind, .int .i64 p.depth, .int .i64 p.lf.sign, .int .i64 p.lf.turn, .bool p.lf.mirror, .int .i64 p.lf.state, .int .i64 p.lf.mn, .int .i64 p.lf.mx] 51)).drewN q1) os1).cell? ⟨w.heap.size + 2, 7, none⟩ = some (.int .i64 n.lf.mx) := by go_simp
 have h7 : rowV 8 (Sort.grow (((((w.alloc (.cells #[.int .i64 most, .slice SA sn sc] 24)).alloc (.cells #[.slice (some ⟨blk, off, none⟩) len c] 33)).alloc (.cells #[.int .i64 n.lf.kind, .int .i64 n.depth, .int .i64 n.lf.sign, .int .i64 n.lf.turn, .bool n.lf.mirror, .int .i64 n.lf.state, .int .i64 n.lf.mn, .int .i64 n.lf.mx] 51)).alloc (.cells #[.int .i64 p.lf.kind, .int .i64 p.depth, .int .i64 p.lf.sign, .int .i64 p.lf.turn, .bool p.lf.mirror, .int .i64 p.lf.state, .int .i64 p.lf.mn, .int .i64 p.lf.mx] 51)).drewN q1) os1) (w.heap.size + 2) 0 = some (nv n) := by go_simp
 have m0 : (Sort.grow (((((w.alloc (.cells #[.int .i64 most, .slice SA sn sc] 24)).alloc (.cells #[.slice (some ⟨blk, off, none⟩) len c] 33)).alloc (.cells #[.int .i64 n.lf.kind, .int .i64 n.depth, .int .i64 n.lf.sign, .int .i64 n.lf.turn, .bool n.lf.mirror, .int .i64 n.lf.state, .int .i64 n.lf.mn, .int .i64 n.lf.mx] 51)).alloc (.cells #[.int .i64 p.lf.kind, .int .i64 p.depth, .int .i64 p.lf.sign, .int .i64 p.lf.turn, .bool p.lf.mirror, .int .i64 p.lf.state, .int .i64 p.lf.mn, .int .i64 p.lf.mx] 51)).drewN q1) os1).cell? ⟨w.heap.size, 0, none⟩ = some (.int .i64 most) := by go_simp
 have m1 : (Sort.grow (((((w.alloc (.cells #[.int .i64 most, .slice SA sn sc] 24)).alloc (.cells #[.slice (some ⟨blk, off, none⟩) len c] 33)).alloc (.cells #[.int .i64 n.lf.kind, .int .i64 n.depth, .int .i64 n.lf.sign, .int .i64 n.lf.turn, .bool n.lf.mirror, .int .i64 n.lf.state, .int .i64 n.lf.mn, .int .i64 n.lf.mx] 51)).alloc (.cells #[.int .i64 p.lf.kind, .int .i64 p.depth, .int .i64 p.lf.sign, .int .i64 p.lf.turn, .bool p.lf.mirror, .int .i64 p.lf.state, .int .i64 p.lf.mn, .int .i64 p.lf.mx] 51)).drewN q1) os1).cell? ⟨w.heap.size, 1, none⟩ = some (.slice SA sn sc) := by go_simp
 have hgc : Gr w (Sort.grow (((((w.alloc (.cells #[.int .i64 most, .slice SA sn sc] 24)).alloc (.cells #[.slice (some ⟨blk, off, none⟩) len c] 33)).alloc (.cells #[.int .i64 n.lf.kind, .int .i64 n.depth, .int .i64 n.lf.sign, .int .i64 n.lf.turn, .bool n.lf.mirror, .int .i64 n.lf.state, .int .i64 n.lf.mn, .int .i64 n.lf.mx] 51)).alloc (.cells #[.int .i64 p.lf.kind, .int .i64 p.depth, .int .i64 p.lf.sign, .int .i64 p.lf.turn, .bool p.lf.mirror, .int .i64 p.lf.state, .int .i64 p.lf.mn, .int .i64 p.lf.mx] 51)).drewN q1) os1) := gw
 generalize Sort.grow (((((w.alloc (.cells #[.int .i64 most, .slice SA sn sc] 24)).alloc (.cells #[.slice (some ⟨blk, off, none⟩) len c] 33)).alloc (.cells #[.int .i64 n.lf.kind, .int .i64 n.depth, .int .i64 n.lf.sign, .int .i64 n.lf.turn, .bool n.lf.mirror, .int .i64 n.lf.state, .int .i64 n.lf.mn, .int .i64 n.lf.mx] 51)).alloc (.cells #[.int .i64 p.lf.kind, .int .i64 p.depth, .int .i64 p.lf.sign, .int .i64 p.lf.turn, .bool p.lf.mirror, .int .i64 p.lf.state, .int .i64 p.lf.mn, .int .i64 p.lf.mx] 51)).drewN q1) os1 = wc at c0 c1 c2 c3 c4 c5 c6 c7 h7 m0 m1 hgc ⊢
 exact tZ1) : P := h
theorem tZ70 {P : Prop} (h : P := by
 go_enter Tryz.func70, Tryz.ntmps70
 exact tZ43) : P := h
set_option maxRecDepth 100000 in
set_option maxHeartbeats 8000000 in
theorem own_call (most : Int) (SA : Option Addr) (sn sc : Nat) (A : Option Addr) (len c : Nat) (l : List Sg) (ns : List Nd) (i : Nat) (n : Nd) (w : World) (hE : LayEnv w most SA sn sc A len c l ns) (hn : ns[i]? = some n)
 (hprev : ∀ k p, i = k + 1 → ns[k]? = some p → 0 ≤ p.depth ∧ p.depth ≤ 4) :
 Calls Tryz.prog 70 #[lv most SA sn sc, .agg #[.slice A len c], .int .i64 (i : Nat)] w fun e w' => e = .returned (.int .i64 (nodeE l (topN ns i) n)) ∧ Gr w w' := by
 have hi : i < len := by have := (gO hn).1; rw [hE.nl] at this; exact this
 have hlen := hE.nb
 obtain ⟨blk, off, rfl, hat⟩ := hE.nd.2 _ n hn
 have hblk : blk < w.heap.size := lcc w _ hat.c0
 simp only [NdAt] at hat
 have ti : ((i : Nat) : Int).toNat = i := by omega
 have HE := hiD hE
 have HN := hiD hn
 have HP := hiD hprev
 obtain ⟨te, hte⟩ : ∃ te, te = nodeE l (topN ns i) n := ⟨_, rfl⟩
 rw [← hte]
 have HTE := hiD hte
 clear hE hn hprev hte
 by_cases hk1 : n.lf.kind < 1
 ·have d1 : decide (n.lf.kind < 1) = true := by simp [hk1]
  have hv : te = 20 := by rw [HTE.out]; unfold nodeE; rw [if_pos (.inl hk1)]
  subst hv
  clear hk1
  exact tZ70
 by_cases hk7 : 7 < n.lf.kind
 ·have d1 : decide (n.lf.kind < 1) = false := by simp; omega
  have d2 : decide (7 < n.lf.kind) = true := by simp [hk7]
  have hv : te = 20 := by rw [HTE.out]; unfold nodeE; rw [if_pos (.inr hk7)]
  subst hv
  clear hk1 hk7
  exact tZ70
 have d1 : decide (n.lf.kind < 1) = false := by simp; omega
 have d2 : decide (7 < n.lf.kind) = false := by simp; omega
 by_cases hd0 : n.depth < 0
 ·have d3 : decide (n.depth < 0) = true := by simp [hd0]
  have hv : te = 21 := by rw [HTE.out]; unfold nodeE; rw [if_neg (by omega), if_pos (.inl hd0)]
  subst hv
  clear hk1 hk7 hd0
  exact tZ70
 by_cases hd4 : 4 < n.depth
 ·have d3 : decide (n.depth < 0) = false := by simp; omega
  have d4 : decide (4 < n.depth) = true := by simp [hd4]
  have hv : te = 21 := by rw [HTE.out]; unfold nodeE; rw [if_neg (by omega), if_pos (.inr (.inl hd4))]
  subst hv
  clear hk1 hk7 hd0 hd4
  exact tZ70
 have d3 : decide (n.depth < 0) = false := by simp; omega
 have d4 : decide (4 < n.depth) = false := by simp; omega
 by_cases htop : topN ns i < n.depth
 ·have hv : te = 21 := by rw [HTE.out]; unfold nodeE; rw [if_neg (by omega), if_pos (.inr (.inr htop))]
  subst hv
  have d9 : decide (topN ns i < n.depth) = true := by simp [htop]
  cases i with
  | zero =>
    have d5 : decide (0 < n.depth) = true := by simpa [topN] using htop
    rw [show ((0 : Nat) : Int) = 0 from rfl]
    rw [Nat.zero_mul, Nat.add_zero] at hat
    clear hk1 hk7 hd0 hd4 htop d9
    exact tZ70
  | succ k =>
    have hk : k < ns.length := by have := (gO HN.out).1; omega
    obtain ⟨p, hp⟩ : ∃ p, ns[k]? = some p := ⟨_, gE hk⟩
    have hpd := HP.out k p rfl hp
    obtain ⟨blk2, off2, e2, hatp⟩ := HE.out.nd.2 k p hp
    obtain ⟨rfl, rfl⟩ : blk = blk2 ∧ off = off2 := by simpa using e2
    simp only [NdAt] at hatp
    have kl : k < len := by omega
    have tk : ((k : Nat) : Int).toNat = k := by omega
    have ek : ((k + 1 : Nat) : Int) = (k : Int) + 1 := by omega
    have tk1 : ((k : Int) + 1).toNat = k + 1 := by omega
    have HLF := hiD (leaf2_call p.lf.kind)
    rw [ek]
    simp only [topN, hp] at htop
    clear e2 ti ek
    by_cases h1 : p.depth + 1 < n.depth
    ·have d6 : decide (p.depth + 1 < n.depth) = true := by simp [h1]
     clear hk1 hk7 hd0 hd4 htop d9 h1
     exact tZ70
    ·have hlf : leafB p = true := by
      cases h : leafB p with
      | true => rfl
      | false => rw [h] at htop; simp at htop; omega
     have hlf2 : (decide (p.lf.kind = 1) || decide (p.lf.kind = 6)) = true := by simpa [leafB] using hlf
     rw [hlf2] at HLF
     rw [hlf] at htop
     simp only [if_true] at htop
     have d6 : decide (p.depth + 1 < n.depth) = false := by simp; omega
     have d7 : decide (p.depth < n.depth) = true := by simp [htop]
     clear hk1 hk7 hd0 hd4 htop d9 h1 hlf hlf2
     go_enter Tryz.func70, Tryz.ntmps70
     go_wp2_with (go_at_call 136; refine (HLF.out.at _).mono ?_; rintro e w1 ⟨rfl, q1, os1, rfl⟩)
     exact tZ15
 ·have d9 : topN ns i ≥ n.depth := by omega
  have HD9 := hiD d9
  have hv : te = fieldE l n := by rw [HTE.out]; exact nodeE_rest l (by omega) (by omega)
  have HV := hiD hv
  clear hv d9 HTE hk1 hk7
  cases i with
  | zero =>
    have d5 : decide (0 < n.depth) = false := by have := HD9.out; simp [topN] at this; simp; omega
    rw [show ((0 : Nat) : Int) = 0 from rfl]
    rw [Nat.zero_mul, Nat.add_zero] at hat
    clear hd0 hd4 htop
    go_enter Tryz.func70, Tryz.ntmps70
    go_upto_region 10 with fail
    simp only [Nat.add_assoc, Nat.reduceAdd]
    have c0 : (((w.alloc (.cells #[.int .i64 most, .slice SA sn sc] 24)).alloc (.cells #[.slice (some ⟨blk, off, none⟩) len c] 33)).alloc (.cells #[.int .i64 n.lf.kind, .int .i64 n.depth, .int .i64 n.lf.sign, .int .i64 n.lf.turn, .bool n.lf.mirror, .int .i64 n.lf.state, .int .i64 n.lf.mn, .int .i64 n.lf.mx] 51)).cell? ⟨w.heap.size + 2, 0, none⟩ = some (.int .i64 n.lf.kind) := by go_simp
    have c1 : (((w.alloc (.cells #[.int .i64 most, .slice SA sn sc] 24)).alloc (.cells #[.slice (some ⟨blk, off, none⟩) len c] 33)).alloc (.cells #[.int .i64 n.lf.kind, .int .i64 n.depth, .int .i64 n.lf.sign, .int .i64 n.lf.turn, .bool n.lf.mirror, .int .i64 n.lf.state, .int .i64 n.lf.mn, .int .i64 n.lf.mx] 51)).cell? ⟨w.heap.size + 2, 1, none⟩ = some (.int .i64 n.depth) := by go_simp
    have c2 : (((w.alloc (.cells #[.int .i64 most, .slice SA sn sc] 24)).alloc (.cells #[.slice (some ⟨blk, off, none⟩) len c] 33)).alloc (.cells #[.int .i64 n.lf.kind, .int .i64 n.depth, .int .i64 n.lf.sign, .int .i64 n.lf.turn, .bool n.lf.mirror, .int .i64 n.lf.state, .int .i64 n.lf.mn, .int .i64 n.lf.mx] 51)).cell? ⟨w.heap.size + 2, 2, none⟩ = some (.int .i64 n.lf.sign) := by go_simp
    have c3 : (((w.alloc (.cells #[.int .i64 most, .slice SA sn sc] 24)).alloc (.cells #[.slice (some ⟨blk, off, none⟩) len c] 33)).alloc (.cells #[.int .i64 n.lf.kind, .int .i64 n.depth, .int .i64 n.lf.sign, .int .i64 n.lf.turn, .bool n.lf.mirror, .int .i64 n.lf.state, .int .i64 n.lf.mn, .int .i64 n.lf.mx] 51)).cell? ⟨w.heap.size + 2, 3, none⟩ = some (.int .i64 n.lf.turn) := by go_simp
    have c4 : (((w.alloc (.cells #[.int .i64 most, .slice SA sn sc] 24)).alloc (.cells #[.slice (some ⟨blk, off, none⟩) len c] 33)).alloc (.cells #[.int .i64 n.lf.kind, .int .i64 n.depth, .int .i64 n.lf.sign, .int .i64 n.lf.turn, .bool n.lf.mirror, .int .i64 n.lf.state, .int .i64 n.lf.mn, .int .i64 n.lf.mx] 51)).cell? ⟨w.heap.size + 2, 4, none⟩ = some (.bool n.lf.mirror) := by go_simp
    have c5 : (((w.alloc (.cells #[.int .i64 most, .slice SA sn sc] 24)).alloc (.cells #[.slice (some ⟨blk, off, none⟩) len c] 33)).alloc (.cells #[.int .i64 n.lf.kind, .int .i64 n.depth, .int .i64 n.lf.sign, .int .i64 n.lf.turn, .bool n.lf.mirror, .int .i64 n.lf.state, .int .i64 n.lf.mn, .int .i64 n.lf.mx] 51)).cell? ⟨w.heap.size + 2, 5, none⟩ = some (.int .i64 n.lf.state) := by go_simp
    have c6 : (((w.alloc (.cells #[.int .i64 most, .slice SA sn sc] 24)).alloc (.cells #[.slice (some ⟨blk, off, none⟩) len c] 33)).alloc (.cells #[.int .i64 n.lf.kind, .int .i64 n.depth, .int .i64 n.lf.sign, .int .i64 n.lf.turn, .bool n.lf.mirror, .int .i64 n.lf.state, .int .i64 n.lf.mn, .int .i64 n.lf.mx] 51)).cell? ⟨w.heap.size + 2, 6, none⟩ = some (.int .i64 n.lf.mn) := by go_simp
    have c7 : (((w.alloc (.cells #[.int .i64 most, .slice SA sn sc] 24)).alloc (.cells #[.slice (some ⟨blk, off, none⟩) len c] 33)).alloc (.cells #[.int .i64 n.lf.kind, .int .i64 n.depth, .int .i64 n.lf.sign, .int .i64 n.lf.turn, .bool n.lf.mirror, .int .i64 n.lf.state, .int .i64 n.lf.mn, .int .i64 n.lf.mx] 51)).cell? ⟨w.heap.size + 2, 7, none⟩ = some (.int .i64 n.lf.mx) := by go_simp
    have h7 : rowV 8 (((w.alloc (.cells #[.int .i64 most, .slice SA sn sc] 24)).alloc (.cells #[.slice (some ⟨blk, off, none⟩) len c] 33)).alloc (.cells #[.int .i64 n.lf.kind, .int .i64 n.depth, .int .i64 n.lf.sign, .int .i64 n.lf.turn, .bool n.lf.mirror, .int .i64 n.lf.state, .int .i64 n.lf.mn, .int .i64 n.lf.mx] 51)) (w.heap.size + 2) 0 = some (nv n) := by go_simp
    have m0 : (((w.alloc (.cells #[.int .i64 most, .slice SA sn sc] 24)).alloc (.cells #[.slice (some ⟨blk, off, none⟩) len c] 33)).alloc (.cells #[.int .i64 n.lf.kind, .int .i64 n.depth, .int .i64 n.lf.sign, .int .i64 n.lf.turn, .bool n.lf.mirror, .int .i64 n.lf.state, .int .i64 n.lf.mn, .int .i64 n.lf.mx] 51)).cell? ⟨w.heap.size, 0, none⟩ = some (.int .i64 most) := by go_simp
    have m1 : (((w.alloc (.cells #[.int .i64 most, .slice SA sn sc] 24)).alloc (.cells #[.slice (some ⟨blk, off, none⟩) len c] 33)).alloc (.cells #[.int .i64 n.lf.kind, .int .i64 n.depth, .int .i64 n.lf.sign, .int .i64 n.lf.turn, .bool n.lf.mirror, .int .i64 n.lf.state, .int .i64 n.lf.mn, .int .i64 n.lf.mx] 51)).cell? ⟨w.heap.size, 1, none⟩ = some (.slice SA sn sc) := by go_simp
    have hgc : Gr w (((w.alloc (.cells #[.int .i64 most, .slice SA sn sc] 24)).alloc (.cells #[.slice (some ⟨blk, off, none⟩) len c] 33)).alloc (.cells #[.int .i64 n.lf.kind, .int .i64 n.depth, .int .i64 n.lf.sign, .int .i64 n.lf.turn, .bool n.lf.mirror, .int .i64 n.lf.state, .int .i64 n.lf.mn, .int .i64 n.lf.mx] 51)) := gw
    generalize ((w.alloc (.cells #[.int .i64 most, .slice SA sn sc] 24)).alloc (.cells #[.slice (some ⟨blk, off, none⟩) len c] 33)).alloc (.cells #[.int .i64 n.lf.kind, .int .i64 n.depth, .int .i64 n.lf.sign, .int .i64 n.lf.turn, .bool n.lf.mirror, .int .i64 n.lf.state, .int .i64 n.lf.mn, .int .i64 n.lf.mx] 51) = wc at c0 c1 c2 c3 c4 c5 c6 c7 h7 m0 m1 hgc ⊢
    exact tZ1
  | succ k =>
    have hk : k < ns.length := by have := (gO HN.out).1; omega
    obtain ⟨p, hp⟩ : ∃ p, ns[k]? = some p := ⟨_, gE hk⟩
    have hpd := HP.out k p rfl hp
    obtain ⟨blk2, off2, e2, hatp⟩ := HE.out.nd.2 k p hp
    obtain ⟨rfl, rfl⟩ : blk = blk2 ∧ off = off2 := by simpa using e2
    simp only [NdAt] at hatp
    have kl : k < len := by omega
    have tk : ((k : Nat) : Int).toNat = k := by omega
    have ek : ((k + 1 : Nat) : Int) = (k : Int) + 1 := by omega
    have tk1 : ((k : Int) + 1).toNat = k + 1 := by omega
    have HLF := hiD (leaf2_call p.lf.kind)
    rw [ek]
    have htop := HD9.out
    simp only [topN, hp] at htop
    have hle : n.depth ≤ p.depth + 1 := by split at htop <;> omega
    have d6 : decide (p.depth + 1 < n.depth) = false := by simp; omega
    clear e2 ti ek
    cases hlf : leafB p with
    | false =>
      have hlf2 : (decide (p.lf.kind = 1) || decide (p.lf.kind = 6)) = false := by simpa [leafB] using hlf
      rw [hlf2] at HLF
      clear hd0 hd4 htop hle hlf hlf2
      go_enter Tryz.func70, Tryz.ntmps70
      go_upto_region 10 with (go_at_call 136; refine (HLF.out.at _).mono ?_; rintro e w1 ⟨rfl, q1, os1, rfl⟩)
      clear hatp HLF tk1 tk kl hpd hp hk d6
      exact tZ0
    | true =>
      have hlf2 : (decide (p.lf.kind = 1) || decide (p.lf.kind = 6)) = true := by simpa [leafB] using hlf
      rw [hlf2] at HLF
      rw [hlf] at htop
      simp only [if_true] at htop
      have d7 : decide (p.depth < n.depth) = false := by simp; omega
      clear hd0 hd4 htop hle hlf hlf2
      go_enter Tryz.func70, Tryz.ntmps70
      go_upto_region 10 with (go_at_call 136; refine (HLF.out.at _).mono ?_; rintro e w1 ⟨rfl, q1, os1, rfl⟩)
      clear hatp HLF tk1 tk kl hpd hp hk d6 d7
      exact tZ0
end Go.Proofs.OGW
