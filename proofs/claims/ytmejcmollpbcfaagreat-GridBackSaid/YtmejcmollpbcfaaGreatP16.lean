import Derived.Test.YtmejcmollpbcfaaGreatP12
set_option linter.all false
namespace Go.Proofs.OGW
open Go.RowKit Go.Sort OG Go.Shelf Go.PlainAid
attribute [local go_sem] sA fv sB sG sC Nat.zero_add
attribute [local go_sem ↓] ld66 ld51 st66 st51
def NdAt (w : World) (b o : Nat) (n : Nd) : Prop := rowV 8 w b o = some (nv n)
theorem NdAt.gr {w w' : World} {b o : Nat} {n : Nd} (hg : Gr w w') (h : NdAt w b o n) : NdAt w' b o n := rowV_mono hg h rfl
abbrev NdRow (w : World) (A : Option Addr) (xs : List Nd) : Prop := Row 8 NdAt w A xs
theorem NdRow.gr {w w' : World} {A : Option Addr} {xs : List Nd} (h : NdRow w A xs) (hg : Gr w w') : NdRow w' A xs := Row.mono h fun _ _ _ => NdAt.gr hg
theorem NdAt.c0 {w : World} {b o : Nat} {n : Nd} (h : NdAt w b o n) : w.cell? ⟨b, o, none⟩ = some (.int .i64 n.lf.kind) := rowV_cell h 0 _ rfl
theorem NdAt.c1 {w : World} {b o : Nat} {n : Nd} (h : NdAt w b o n) : w.cell? ⟨b, o + 1, none⟩ = some (.int .i64 n.depth) := rowV_cell h 1 _ rfl
def leafB (n : Nd) : Bool := decide (n.lf.kind = 1) || decide (n.lf.kind = 6)
set_option maxHeartbeats 400000 in
theorem isLeaf_call (n : Nd) : Ans 148 #[nv n] (.bool (leafB n)) := by
 intro w
 go_enter Tryz.func148, Tryz.ntmps148
 go_wp2
 all_goals
  go_ret
  refine ⟨?_, gw⟩
  first | rfl | (simp [leafB, *]; done) | (congr 2; rw [Bool.eq_iff_iff]; simp [leafB])
def skipN (d : Int) : List Nd → Nat
 | [] => 0
 | n :: r => if d < n.depth then skipN d r + 1 else 0
def endN (ns : List Nd) (i : Nat) : Nat := match ns[i]? with
 | some n => i + 1 + skipN n.depth (ns.drop (i + 1))
 | none => i + 1
theorem skipN_no {d : Int} {n : Nd} {r : List Nd} (h : n.depth ≤ d) : skipN d (n :: r) = 0 := by simp [skipN]; omega
theorem skipN_yes {d : Int} {n : Nd} {r : List Nd} (h : d < n.depth) : skipN d (n :: r) = skipN d r + 1 := by simp [skipN, h]
theorem skipN_le (d : Int) : ∀ l : List Nd, skipN d l ≤ l.length
 | [] => Nat.le_refl _
 | n :: r => by unfold skipN; split <;> simp; exact skipN_le d r
theorem endN_le {ns : List Nd} {i : Nat} (h : i < ns.length) : i < endN ns i ∧ endN ns i ≤ ns.length := by
 unfold endN
 rw [gE h]
 have := skipN_le ns[i].depth (ns.drop (i + 1))
 rw [List.length_drop] at this
 show i < i + 1 + _ ∧ i + 1 + _ ≤ _
 omega
theorem tZ32 {P : Prop} (h : P := by
 refine wp_region_quiet_grown mixed (by kernel_rfl) ?_
 repeat (go_big_quiet_step (fail))
 refine wpQuiet_nil ?_
 rintro w' ⟨⟨nq, osq⟩, rfl⟩
 go_wp2
 go_roundw
 case rel => exact ⟨j + 1, by go_num, by omega, by omega, HG.out.trans (Gr.of_eq _ _), by have := HI.out; rw [HS.out] at this; show endN ns i = _; rw [this]; simp only [skipN, hdp, if_true]; omega⟩
 case measure => simp [intOf]; omega) : P := h
theorem tZ110 {P : Prop} (h : P := by
 have hjn : j < ns.length := by rw [HL.out]; exact hjl
 rw [List.drop_eq_getElem_cons hjn]
 rw [gE hjn] at hx
 rw [Option.some.inj hx]) : P := h
set_option maxHeartbeats 2000000 in
theorem end_call (A : Option Addr) (c : Nat) (ns : List Nd) (i : Nat) (w : World) (hr : NdRow w A ns) (len : Nat) (hl : ns.length = len) (hlen : len ≤ 1000000) (hi : i < len) :
 Calls Tryz.prog 178 #[.slice A len c, .int .i64 i] w fun e w' => e = .returned (.int .i64 (endN ns i : Nat)) ∧ Gr w w' := by
 obtain ⟨m, hm⟩ : ∃ m, ns[i]? = some m := ⟨_, gE (by omega)⟩
 have he : endN ns i = i + 1 + skipN m.depth (ns.drop (i + 1)) := by unfold endN; rw [hm]
 obtain ⟨blk, off, rfl, hat⟩ := hr.2 i m hm
 have HAT := hiD hat
 have HR := hiD hr
 have HL := hiD hl
 have HE := hiD he
 clear hat hr hl he hm
 go_enter Tryz.func178, Tryz.ntmps178
 go_wp2
 go_loopw [5] (fun k wr => ∃ j : Nat, k = .int .i64 j ∧ i < j ∧ j ≤ len ∧ Gr w wr ∧ Hid (endN ns i = j + skipN m.depth (ns.drop j))) (fun k _ => len - (intOf k).toNat)
 case atStart => exact ⟨i + 1, by go_num, by omega, by omega, Gr.refl _, by exact HE.out⟩
 case round =>
  obtain ⟨j, rfl, hij, hj, hg, HI⟩ := hrel
  have HG := hiD hg
  clear hg
  by_cases hjl : j < len
  ·have hd : decide ((j : Int) < (len : Int)) = true := by simp; omega
   obtain ⟨x, hx⟩ : ∃ x, ns[j]? = some x := ⟨_, gE (by rw [HL.out]; exact hjl)⟩
   obtain ⟨blk', off', e, hax⟩ := HR.out.2 j x hx
   obtain ⟨rfl, rfl⟩ : blk = blk' ∧ off = off' := by simpa using e
   have c1 := (HAT.out.gr HG.out).c1
   have c2 := (hax.gr HG.out).c1
   have hb : blk < wr.heap.size := lcc wr _ c1
   have hs : ns.drop j = x :: ns.drop (j + 1) := by
    exact tZ110
   have HS := hiD hs
   have t1 : ((j : Nat) : Int).toNat = j := by omega
   have t2 : ((i : Nat) : Int).toNat = i := by omega
   clear hx hax e hs
   by_cases hdp : m.depth < x.depth
   ·have hd2 : decide (m.depth < x.depth) = true := by simp [hdp]
    go_wp2
    exact tZ32
   ·have hd2 : decide (m.depth < x.depth) = false := by simp; omega
    go_wp2
    refine wp_region_quiet_grown mixed (by kernel_rfl) ?_
    repeat (go_big_quiet_step (fail))
    refine wpQuiet_nil ?_
    rintro w' ⟨⟨nq, osq⟩, rfl⟩
    go_wp2
    go_ret
    exact ⟨ret_int (by have := HI.out; rw [HS.out] at this; have h0 := skipN_no (r := ns.drop (j + 1)) hdp; omega), HG.out.trans (Gr.of_eq _ _)⟩
  ·obtain rfl : j = len := by omega
   have hd : decide ((j : Int) < (j : Int)) = false := by simp
   go_wp2
   refine wp_region_quiet_grown mixed (by kernel_rfl) ?_
   repeat (go_big_quiet_step (fail))
   refine wpQuiet_nil ?_
   rintro w' ⟨⟨nq, osq⟩, rfl⟩
   go_wp2
   go_ret
   exact ⟨ret_int (by have := HI.out; rw [List.drop_eq_nil_of_le (by rw [HL.out]; exact Nat.le_refl _)] at this; rw [this]; simp [skipN]), HG.out.trans (Gr.of_eq _ _)⟩
abbrev layv (most : Int) (A : Option Addr) (n c : Nat) (B : Option Addr) (m d : Nat) (rw : Bool) : Value := .agg #[.int .i64 most, .slice A n c, .slice B m d, .bool rw]
set_option maxHeartbeats 2000000 in
theorem layEnd_call (most : Int) (SA : Option Addr) (sn sc : Nat) (A : Option Addr) (c : Nat) (rb : Bool) (ns : List Nd) (i : Nat) (w : World) (hr : NdRow w A ns) (len : Nat) (hl : ns.length = len) (hlen : len ≤ 1000000) (hi : i < len) :
 Calls Tryz.prog 150 #[layv most SA sn sc A len c rb, .int .i64 i] w fun e w' => e = .returned (.int .i64 (endN ns i : Nat)) ∧ Gr w w' := by
 obtain ⟨m, hm⟩ : ∃ m, ns[i]? = some m := ⟨_, gE (by omega)⟩
 have he : endN ns i = i + 1 + skipN m.depth (ns.drop (i + 1)) := by unfold endN; rw [hm]
 obtain ⟨blk, off, rfl, hat⟩ := hr.2 i m hm
 have HAT := hiD hat
 have HR := hiD hr
 have HL := hiD hl
 have HE := hiD he
 clear hat hr hl he hm
 go_enter Tryz.func150, Tryz.ntmps150
 go_upto_region 1 with fail
 have g1 : Gr w (w.alloc (.cells #[.int .i64 most, .slice SA sn sc, .slice (some ⟨blk, off, none⟩) len c, .bool rb] 95)) := (Gr.refl w).alloc _
 have m2 : (w.alloc (.cells #[.int .i64 most, .slice SA sn sc, .slice (some ⟨blk, off, none⟩) len c, .bool rb] 95)).cell? ⟨w.heap.size, 2, none⟩ = some (.slice (some ⟨blk, off, none⟩) len c) := by go_simp
 generalize w.alloc (.cells #[.int .i64 most, .slice SA sn sc, .slice (some ⟨blk, off, none⟩) len c, .bool rb] 95) = W1 at g1 m2 ⊢
 have G1 := hiD g1
 have M2 := hiD m2
 clear g1 m2
 go_wp2
 go_loopw [5] (fun k wr => ∃ j : Nat, k = .int .i64 j ∧ i < j ∧ j ≤ len ∧ Gr W1 wr ∧ Hid (endN ns i = j + skipN m.depth (ns.drop j))) (fun k _ => len - (intOf k).toNat)
 case atStart => exact ⟨i + 1, by go_num, by omega, by omega, Gr.refl _, by exact HE.out⟩
 case round =>
  obtain ⟨j, rfl, hij, hj, hg, HI⟩ := hrel
  have HG := hiD hg
  have c0 := HG.out.cell M2.out
  have hb0 : w.heap.size < wr.heap.size := lcc wr _ c0
  clear hg
  by_cases hjl : j < len
  ·have hd : decide ((j : Int) < (len : Int)) = true := by simp; omega
   obtain ⟨x, hx⟩ : ∃ x, ns[j]? = some x := ⟨_, gE (by rw [HL.out]; exact hjl)⟩
   obtain ⟨blk', off', e, hax⟩ := HR.out.2 j x hx
   obtain ⟨rfl, rfl⟩ : blk = blk' ∧ off = off' := by simpa using e
   have c1 := (HAT.out.gr (G1.out.trans HG.out)).c1
   have c2 := (hax.gr (G1.out.trans HG.out)).c1
   have hb : blk < wr.heap.size := lcc wr _ c1
   have hs : ns.drop j = x :: ns.drop (j + 1) := by
    exact tZ110
   have HS := hiD hs
   have t1 : ((j : Nat) : Int).toNat = j := by omega
   have t2 : ((i : Nat) : Int).toNat = i := by omega
   clear hx hax e hs
   by_cases hdp : m.depth < x.depth
   ·have hd2 : decide (m.depth < x.depth) = true := by simp [hdp]
    go_wp2
    exact tZ32
   ·have hd2 : decide (m.depth < x.depth) = false := by simp; omega
    go_wp2
    refine wp_region_quiet_grown mixed (by kernel_rfl) ?_
    repeat (go_big_quiet_step (fail))
    refine wpQuiet_nil ?_
    rintro w' ⟨⟨nq, osq⟩, rfl⟩
    go_wp2
    go_ret
    exact ⟨ret_int (by have := HI.out; rw [HS.out] at this; have h0 := skipN_no (r := ns.drop (j + 1)) hdp; omega), (G1.out.trans HG.out).trans (Gr.of_eq _ _)⟩
  ·obtain rfl : j = len := by omega
   have hd : decide ((j : Int) < (j : Int)) = false := by simp
   go_wp2
   refine wp_region_quiet_grown mixed (by kernel_rfl) ?_
   repeat (go_big_quiet_step (fail))
   refine wpQuiet_nil ?_
   rintro w' ⟨⟨nq, osq⟩, rfl⟩
   go_wp2
   go_ret
   exact ⟨ret_int (by have := HI.out; rw [List.drop_eq_nil_of_le (by rw [HL.out]; exact Nat.le_refl _)] at this; rw [this]; simp [skipN]), (G1.out.trans HG.out).trans (Gr.of_eq _ _)⟩
end Go.Proofs.OGW
