import Derived.Test.YtmejcmollpbcfaaGreatP43
set_option linter.all false
namespace Go.Proofs.OGW
open Go.RowKit Go.Sort OG Go.Shelf Go.PlainAid
attribute [local go_sem] sA fv sB sG sC Nat.zero_add
attribute [local go_sem ↓] ld66 ld51 st66 st51
theorem good_pl {p : PB} (h : good p = true) : PL p := by
 unfold good placedP at h
 simp only [Bool.and_eq_true] at h
 constructor <;> simp [h]
theorem row_fst (W : World) (x y : List Value) (t : TypeId) (hx : x.length = 15) : rowV 15 (W.alloc (.cells (x ++ y).toArray t)) W.heap.size 0 = some (.agg x.toArray) :=
 rowV_of (by simpa using hx) fun j u hu => by
  rw [Nat.zero_add]
  have hj : j < x.length := by have := (Array.getElem?_eq_some_iff.1 hu).1; simpa using this
  refine (World.cell?_alloc_at _ _ _ _ rfl).trans ?_
  simp only [List.getElem?_toArray] at hu ⊢
  rw [List.getElem?_append_left hj]; exact hu
theorem row_snd (W : World) (x y : List Value) (t : TypeId) (hx : x.length = 15) (hy : y.length = 15) : rowV 15 (W.alloc (.cells (x ++ y).toArray t)) W.heap.size 15 = some (.agg y.toArray) :=
 rowV_of (by simpa using hy) fun j u hu => by
  refine (World.cell?_alloc_at _ _ _ _ rfl).trans ?_
  simp only [List.getElem?_toArray] at hu ⊢
  rw [List.getElem?_append_right (by omega), hx, show 15 + j - 15 = j by omega]; exact hu
set_option maxHeartbeats 1000000 in
theorem cut_zero (OB B sb gb ab cb : Nat) (s : Rat) : CutOk OB B sb gb ab cb s 0 := by
 intro W v out A len c xs d hd hE hX hB hr hg hl hlen ho
 obtain rfl : d = 5 := by omega
 have HX := hiD hX
 clear hE hX hr hg hl hd
 go_enter Tryz.func94, Tryz.ntmps94
 go_wp2
 go_ret
 exact ⟨none, v, out, rfl, rfl, HX.out, StepO.gr (Gr.refl _) _, by omega, fun ns h => by cases h⟩
theorem row1 {W : World} {A : Option Addr} {b : PB} (h : BoxRow W A ([b].map raw)) : ∃ blk off, A = some ⟨blk, off, none⟩ ∧ rowV 15 W blk off = some (pv b) := by
 obtain ⟨blk, off, e, k⟩ := h.2 0 (raw b) rfl
 exact ⟨blk, off, e, by rw [Nat.zero_mul, Nat.add_zero] at k; exact k⟩
theorem row2 {W : World} {A : Option Addr} {a b : PB} (h : BoxRow W A ([a, b].map raw)) : ∃ blk off, A = some ⟨blk, off, none⟩ ∧ rowV 15 W blk off = some (pv a) ∧ rowV 15 W blk (off + 15) = some (pv b) := by
 obtain ⟨blk, off, e, k⟩ := h.2 0 (raw a) rfl
 obtain ⟨blk', off', e', k'⟩ := h.2 1 (raw b) rfl
 rw [e] at e'
 obtain ⟨rfl, rfl⟩ : blk = blk' ∧ off = off' := by injection e' with e'; injection e'; exact ⟨‹_›, ‹_›⟩
 exact ⟨blk, off, e, by rw [Nat.zero_mul, Nat.add_zero] at k; exact k, by rw [Nat.one_mul] at k'; exact k'⟩
set_option maxRecDepth 100000 in
set_option maxHeartbeats 4000000 in
theorem cut_one (OB B sb gb ab cb : Nat) (s : Rat) (f : Nat) (W : World) (v : Value) (out : List Nd) (A : Option Addr) (c : Nat) (b : PB) (d : Int) (hd : d + (f + 1 : Nat) = 5) (hd0 : 0 ≤ d) (hX : BoxO OB B W v out) (hB : B ≤ W.heap.size) (hr : BoxRow W A ([b].map raw)) (ho : out.length + 1 ≤ 1000000) :
 Calls Tryz.prog 94 #[.slice A 1 c, .int .i64 d, .pointer (some ⟨OB, 0, none⟩), .pointer (some ⟨gb, 0, none⟩), .pointer (some ⟨ab, 0, none⟩)] W (CutPost OB B W v out 1 (CutR s (f + 1) d [b])) := by
 obtain ⟨blk, off, rfl, hb⟩ := row1 hr
 have d4 : decide (4 < d) = false := by simp; omega
 have HN := hiD (node_call (raw b) d)
 have HX := hiD hX
 obtain ⟨c0, f0⟩ := cell_of_box' hX.box
 have HC0 := hiD c0
 have HB := hiD hb
 clear hX hr hb c0 f0 hd
 go_enter Tryz.func94, Tryz.ntmps94
 go_upto_region 6 with fail
 refine free_grown [1, 2, 4] [0, 3] [5, 6] [7, 8] (by kernel_rfl) (fun d _ _ _ _ h => by cases d <;> exact h) ?_
 simp only [List.filterMap_cons, List.filterMap_nil, List.getElem?_cons_succ, List.getElem?_cons_zero]
 repeat (refine wpPure_step (fun K hK => ?_); go_simp; refine hK _ ?_; clear hK K)
 refine wpPure_nil ?_
 refine wpTake_val rfl v (fun w' hg' => ?_) ?_
 ·have := hg'.cell HC0.out
  go_simp
 refine wpTake_val rfl (pv b) (fun w' hg' => ?_) ?_
 ·have h1 := rowV_mono hg' HB.out rfl
  have h2 := lcc w' _ (rowV_cell h1 0 _ rfl)
  go_simp
 refine wpTake_nil ?_
 refine wpU_step rfl (fun K hK => ?_)
 go_simp
 refine (HN.out W.drew).mono ?_
 rintro e w1 ⟨rfl, hg1⟩
 have hg1' := (Gr.refl W).drew.trans hg1
 refine hK.out _ _ hg1' ?_
 clear hK K hg1
 refine wpU_step rfl (fun K hK => ?_)
 go_simp
 refine hK.out _ _ (hg1'.alloc _) ?_
 clear hK K
 refine wpU_nil ?_
 have HX1 := hiD (HX.out.gr (hg1'.alloc (.cells #[.int .i64 b.lf.kind, .int .i64 d, .int .i64 b.lf.sign, .int .i64 b.lf.turn, .bool b.lf.mirror, .int .i64 b.lf.state, .int .i64 b.lf.mn, .int .i64 b.lf.mx] 51)))
 have hs1 := hg1'.b.size
 have HG1 := hiD (hg1'.alloc (.cells #[.int .i64 b.lf.kind, .int .i64 d, .int .i64 b.lf.sign, .int .i64 b.lf.turn, .bool b.lf.mirror, .int .i64 b.lf.state, .int .i64 b.lf.mn, .int .i64 b.lf.mx] 51))
 clear hg1'
 refine wpList_nds rfl _ _ rfl B v out rfl HX1.out.own _ 0 _ [⟨b.lf, d⟩] 1 rfl rfl (fun j u hu => (World.cell?_alloc_at _ _ _ _ (by go_simp)).trans (by simpa [ndc] using hu)) (by omega) (by simp; omega) ?_
 intro v4 w4 HO4 HS4
 obtain ⟨g4, c4, hv4, _⟩ := HO4.out.form
 subst hv4
 obtain ⟨hbx, hX4, hS4⟩ := HX1.out.step HS4.out HO4.out
 obtain ⟨hc4, hf4⟩ := cell_of_box' hbx
 have HX4 := hiD hX4
 have HS5 := hiD ((StepO.gr HG1.out v).trans hS4)
 clear hbx hX4 hS4 HO4 HS4
 go_wp2
 go_ret
 exact ⟨some [⟨b.lf, d⟩], _, _, rfl, rfl, HX4.out, HS5.out, by simp, fun ns h => by cases h; rfl⟩
theorem tZ84 {P : Prop} (h : P := by
 rcases HO4.out.2 with ⟨rfl, h0⟩ | ⟨g, cap, cur, rfl, _⟩
 ·rw [List.length_append] at h0; simp [OverN] at h0
 ·exact ⟨g, cap, by rw [List.length_append]; rfl⟩) : P := h
set_option maxRecDepth 100000 in
set_option maxHeartbeats 8000000 in
theorem cut_two (OB B sb gb ab cb : Nat) (s : Rat) (f : Nat) (W : World) (v : Value) (out : List Nd) (A : Option Addr) (c : Nat) (a b : PB) (d : Int) (hd : d + (f + 1 : Nat) = 5) (hd0 : 0 ≤ d) (hX : BoxO OB B W v out) (hB : B ≤ W.heap.size) (hr : BoxRow W A ([a, b].map raw)) (ho : out.length + 3 ≤ 1000000)
 (ha : good a = true) (hb : good b = true) (hba : holdsP b a = false) (hab : holdsP a b = true) :
 Calls Tryz.prog 94 #[.slice A 2 c, .int .i64 d, .pointer (some ⟨OB, 0, none⟩), .pointer (some ⟨gb, 0, none⟩), .pointer (some ⟨ab, 0, none⟩)] W (CutPost OB B W v out 3 (CutR s (f + 1) d [a, b])) := by
 obtain ⟨blk, off, rfl, hra, hrb⟩ := row2 hr
 have d4 : decide (4 < d) = false := by simp; omega
 have hd5 : d ≤ 4 := by omega
 have h1 := holds_call b a (good_pl hb) (good_pl ha)
 have h2 := holds_call a b (good_pl ha) (good_pl hb)
 rw [show holdsB b a = false from hba] at h1
 rw [show holdsB a b = true from hab] at h2
 have H1 := hiD h1
 have H2 := hiD h2
 have HNa := hiD (node_call (raw a) (d + 1))
 have HNb := hiD (node_call (raw b) (d + 1))
 have HX := hiD hX
 obtain ⟨c0, f0⟩ := cell_of_box' hX.box
 have HC0 := hiD c0
 have HRA := hiD hra
 have HRB := hiD hrb
 have nb : blk < W.heap.size := lcc W _ (rowV_cell hra 0 _ rfl)
 have HR : CutR s (f + 1) d [a, b] (some (OverN d a b)) := by simp only [CutR, hba, hab, Bool.false_eq_true, if_false, if_true]
 have HR' := hiD HR
 clear hX hr c0 f0 hd ha hb hba hab h1 h2 HR
 go_enter Tryz.func94, Tryz.ntmps94
 go_wp2
 refine wp_region_quiet_grown mixed (by kernel_rfl) ?_
 repeat (go_big_quiet_step ((go_at_call 96; exact H1.out.quiet)))
 refine wpQuiet_nil ?_
 rintro w' ⟨⟨nq, osq⟩, rfl⟩
 have hg0 : Gr W (Sort.grow (W.drewN nq) osq) := Gr.of_eq _ _
 generalize Sort.grow (W.drewN nq) osq = W0 at hg0 ⊢
 have hra := rowV_mono hg0 HRA.out rfl
 have hrb := rowV_mono hg0 HRB.out rfl
 have nb := lcc W0 _ (rowV_cell hra 0 _ rfl)
 have HG0 := hiD hg0
 clear hg0 nq osq
 go_wp2
 refine wp_region_quiet_grown mixed (by kernel_rfl) ?_
 repeat (go_big_quiet_step ((go_at_call 96; exact H2.out.quiet)))
 refine wpQuiet_nil ?_
 rintro w' ⟨⟨nq, osq⟩, rfl⟩
 have hg1 : Gr W (Sort.grow (W0.drewN nq) osq) := HG0.out.trans (Gr.of_eq _ _)
 generalize Sort.grow (W0.drewN nq) osq = W1 at hg1 ⊢
 have HG1 := hiD hg1
 have HX1 := hiD (HX.out.gr hg1)
 have HC1 := hiD (hg1.cell HC0.out)
 have HA1 := hiD (rowV_mono hg1 HRA.out rfl)
 have HB1 := hiD (rowV_mono hg1 HRB.out rfl)
 have hB1 : B ≤ W1.heap.size := Nat.le_trans hB hg1.b.size
 clear hg1 nq osq hra hrb nb
 go_upto_region 9 with fail
 have hw : IntKind.i64.wrap (d + 1) = d + 1 := IntWalk.i64_in _ ⟨by omega, by omega⟩
 refine free_grown [1, 2, 3, 4, 6, 7, 9, 10, 12, 13] [0, 5, 11] [8, 14, 15] [16, 17] (by kernel_rfl) (fun d _ _ _ _ h => by cases d <;> exact h) ?_
 simp only [List.filterMap_cons, List.filterMap_nil, List.getElem?_cons_succ, List.getElem?_cons_zero]
 repeat (refine wpPure_step (fun K hK => ?_); go_simp; refine hK _ ?_; clear hK K)
 refine wpPure_nil ?_
 refine wpTake_val rfl v (fun w' hg' => ?_) ?_
 ·have := hg'.cell HC1.out
  go_simp
 refine wpTake_val rfl (pv a) (fun w' hg' => ?_) ?_
 ·have h1 := rowV_mono hg' HA1.out rfl
  have h2 := lcc w' _ (rowV_cell h1 0 _ rfl)
  go_simp
 refine wpTake_val rfl (pv b) (fun w' hg' => ?_) ?_
 ·have h1 := rowV_mono hg' HB1.out rfl
  have h2 := lcc w' _ (rowV_cell h1 0 _ rfl)
  go_simp
 refine wpTake_nil ?_
 refine wpU_step rfl (fun K hK => ?_)
 go_simp
 refine (HNa.out W1.drew).mono ?_
 rintro e w2 ⟨rfl, hg2⟩
 have hg2' := (Gr.refl W1).drew.trans hg2
 refine hK.out _ _ hg2' ?_
 clear hK K hg2
 refine wpU_step rfl (fun K hK => ?_)
 go_simp
 refine (HNb.out w2).mono ?_
 rintro e w3 ⟨rfl, hg3⟩
 have hg3' := hg2'.trans hg3
 refine hK.out _ _ hg3' ?_
 clear hK K hg2' hg3
 refine wpU_step rfl (fun K hK => ?_)
 go_simp
 refine hK.out _ _ (hg3'.alloc _) ?_
 clear hK K
 refine wpU_nil ?_
 have HX3 := hiD (HX1.out.gr (hg3'.alloc (.cells #[.int .i64 4, .int .i64 d, .int .i64 0, .int .i64 0, .bool false, .int .i64 0, .int .i64 0, .int .i64 0, .int .i64 a.lf.kind, .int .i64 (d + 1), .int .i64 a.lf.sign, .int .i64 a.lf.turn, .bool a.lf.mirror, .int .i64 a.lf.state, .int .i64 a.lf.mn, .int .i64 a.lf.mx, .int .i64 b.lf.kind, .int .i64 (d + 1), .int .i64 b.lf.sign, .int .i64 b.lf.turn, .bool b.lf.mirror, .int .i64 b.lf.state, .int .i64 b.lf.mn, .int .i64 b.lf.mx] 51)))
 have hs3 := hg3'.b.size
 have HG3 := hiD (HG1.out.trans (hg3'.alloc (.cells #[.int .i64 4, .int .i64 d, .int .i64 0, .int .i64 0, .bool false, .int .i64 0, .int .i64 0, .int .i64 0, .int .i64 a.lf.kind, .int .i64 (d + 1), .int .i64 a.lf.sign, .int .i64 a.lf.turn, .bool a.lf.mirror, .int .i64 a.lf.state, .int .i64 a.lf.mn, .int .i64 a.lf.mx, .int .i64 b.lf.kind, .int .i64 (d + 1), .int .i64 b.lf.sign, .int .i64 b.lf.turn, .bool b.lf.mirror, .int .i64 b.lf.state, .int .i64 b.lf.mn, .int .i64 b.lf.mx] 51)))
 clear hg3'
 refine wpList_nds rfl _ _ rfl B v out rfl HX3.out.own _ 0 _ (OverN d a b) 3 rfl rfl (fun j u hu => (World.cell?_alloc_at _ _ _ _ (by go_simp)).trans (by simpa [ndc, OverN, bare] using hu)) (by omega) (by simp; omega) ?_
 intro v4 w4 HO4 HS4
 have hform : ∃ g c, v4 = .slice (some ⟨g, 0, none⟩) (out.length + 3) c := by
  exact tZ84
 obtain ⟨g4, c4, hv4⟩ := hform
 subst hv4
 obtain ⟨hbx, hX4, hS4⟩ := HX3.out.step HS4.out HO4.out
 obtain ⟨hc4, hf4⟩ := cell_of_box' hbx
 have HX4 := hiD hX4
 have HS5 := hiD ((StepO.gr HG3.out v).trans hS4)
 clear hbx hX4 hS4 HO4 HS4
 go_wp2
 go_ret
 exact ⟨some (OverN d a b), _, _, HR'.out, rfl, HX4.out, HS5.out, by simp [OverN], fun ns h => by cases h; rfl⟩
set_option maxRecDepth 100000 in
set_option maxHeartbeats 8000000 in
theorem cut_swap (OB B sb gb ab cb : Nat) (s : Rat) (f : Nat) (W : World) (v : Value) (out : List Nd) (A : Option Addr) (c : Nat) (a b : PB) (d : Int) (hd : d + (f + 1 : Nat) = 5) (hd0 : 0 ≤ d) (hX : BoxO OB B W v out) (hB : B ≤ W.heap.size) (hr : BoxRow W A ([a, b].map raw)) (ho : out.length + 3 ≤ 1000000)
 (ha : good a = true) (hb : good b = true) (hba : holdsP b a = true) :
 Calls Tryz.prog 94 #[.slice A 2 c, .int .i64 d, .pointer (some ⟨OB, 0, none⟩), .pointer (some ⟨gb, 0, none⟩), .pointer (some ⟨ab, 0, none⟩)] W (CutPost OB B W v out 3 (CutR s (f + 1) d [a, b])) := by
 obtain ⟨blk, off, rfl, hra, hrb⟩ := row2 hr
 have d4 : decide (4 < d) = false := by simp; omega
 have hd5 : d ≤ 4 := by omega
 have h1 := holds_call b a (good_pl hb) (good_pl ha)
 rw [show holdsB b a = true from hba] at h1
 have H1 := hiD h1
 have HNa := hiD (node_call (raw a) (d + 1))
 have HNb := hiD (node_call (raw b) (d + 1))
 have HX := hiD hX
 obtain ⟨c0, f0⟩ := cell_of_box' hX.box
 have HC0 := hiD c0
 have HRA := hiD hra
 have HRB := hiD hrb
 have nb : blk < W.heap.size := lcc W _ (rowV_cell hra 0 _ rfl)
 have HR : CutR s (f + 1) d [a, b] (some (OverN d b a)) := by simp only [CutR, hba, if_true]
 have HR' := hiD HR
 clear hX hr c0 f0 hd ha hb hba h1 HR
 go_enter Tryz.func94, Tryz.ntmps94
 go_wp2
 refine wp_region_quiet_grown mixed (by kernel_rfl) ?_
 repeat (go_big_quiet_step ((go_at_call 96; exact H1.out.quiet)))
 refine wpQuiet_nil ?_
 rintro w' ⟨⟨nq, osq⟩, rfl⟩
 have hg0 : Gr W (Sort.grow (W.drewN nq) osq) := Gr.of_eq _ _
 generalize Sort.grow (W.drewN nq) osq = W0 at hg0 ⊢
 have hra := rowV_mono hg0 HRA.out rfl
 have hrb := rowV_mono hg0 HRB.out rfl
 have nb := lcc W0 _ (rowV_cell hra 0 _ rfl)
 have HG0 := hiD hg0
 clear hg0 nq osq
 go_wp2
 refine tail_grown 6 (by kernel_rfl) ?_
 simp only [List.take_succ_cons, List.take_zero, List.drop_succ_cons, List.drop_zero]
 repeat (go_big_quiet_step (fail))
 refine wpQuiet_nil ?_
 rintro w' ⟨⟨nq, osq⟩, rfl⟩
 have hg0 : Gr W0 (Sort.grow (W0.drewN nq) osq) := Gr.of_eq _ _
 generalize Sort.grow (W0.drewN nq) osq = W9 at hg0 ⊢
 have HG9 := hiD hg0
 clear hg0 nq osq hra hrb nb
 go_upto_region 9 with fail
 obtain ⟨W1, hW1⟩ : ∃ W1, W1 = W9.alloc (.cells (bcells (raw b) ++ bcells (raw a)).toArray 66) := ⟨_, rfl⟩
 rw [show W9.alloc (.cells #[.int .i64 b.lf.kind, .int .i64 b.lf.sign, .int .i64 b.lf.turn, .bool b.lf.mirror, .int .i64 b.lf.state, .int .i64 b.lf.mn, .int .i64 b.lf.mx, .int .i64 b.x.num, .int .i64 (b.x.den : Int), .int .i64 b.y.num, .int .i64 (b.y.den : Int), .int .i64 b.w.num, .int .i64 (b.w.den : Int), .int .i64 b.h.num, .int .i64 (b.h.den : Int), .int .i64 a.lf.kind, .int .i64 a.lf.sign, .int .i64 a.lf.turn, .bool a.lf.mirror, .int .i64 a.lf.state, .int .i64 a.lf.mn, .int .i64 a.lf.mx, .int .i64 a.x.num, .int .i64 (a.x.den : Int), .int .i64 a.y.num, .int .i64 (a.y.den : Int), .int .i64 a.w.num, .int .i64 (a.w.den : Int), .int .i64 a.h.num, .int .i64 (a.h.den : Int)] 66) = W1 from hW1.symm]
 have hg1 : Gr W W1 := by rw [hW1]; exact HG0.out.trans (HG9.out.alloc _)
 have hb1 : rowV 15 W1 W9.heap.size 0 = some (pv b) := by rw [hW1]; exact row_fst W9 _ _ 66 rfl
 have ha1 : rowV 15 W1 W9.heap.size 15 = some (pv a) := by rw [hW1]; exact row_snd W9 _ _ 66 rfl rfl
 obtain ⟨nb, hnb⟩ : ∃ nb, nb = W9.heap.size := ⟨_, rfl⟩
 rw [← hnb] at hb1 ha1 ⊢
 have HG1 := hiD hg1
 have HX1 := hiD (HX.out.gr hg1)
 have HC1 := hiD (hg1.cell HC0.out)
 have HA1 := hiD ha1
 have HB1 := hiD hb1
 have hB1 : B ≤ W1.heap.size := Nat.le_trans hB hg1.b.size
 clear hg1 ha1 hb1 hW1 hnb
 have hw : IntKind.i64.wrap (d + 1) = d + 1 := IntWalk.i64_in _ ⟨by omega, by omega⟩
 refine free_grown [1, 2, 3, 4, 6, 7, 9, 10, 12, 13] [0, 5, 11] [8, 14, 15] [16, 17] (by kernel_rfl) (fun d _ _ _ _ h => by cases d <;> exact h) ?_
 simp only [List.filterMap_cons, List.filterMap_nil, List.getElem?_cons_succ, List.getElem?_cons_zero]
 repeat (refine wpPure_step (fun K hK => ?_); go_simp; refine hK _ ?_; clear hK K)
 refine wpPure_nil ?_
 refine wpTake_val rfl v (fun w' hg' => ?_) ?_
 ·have := hg'.cell HC1.out
  go_simp
 refine wpTake_val rfl (pv b) (fun w' hg' => ?_) ?_
 ·have h1 := rowV_mono hg' HB1.out rfl
  have h2 := lcc w' _ (rowV_cell h1 0 _ rfl)
  go_simp
 refine wpTake_val rfl (pv a) (fun w' hg' => ?_) ?_
 ·have h1 := rowV_mono hg' HA1.out rfl
  have h2 := lcc w' _ (rowV_cell h1 0 _ rfl)
  go_simp
 refine wpTake_nil ?_
 refine wpU_step rfl (fun K hK => ?_)
 go_simp
 refine (HNb.out W1.drew).mono ?_
 rintro e w2 ⟨rfl, hg2⟩
 have hg2' := (Gr.refl W1).drew.trans hg2
 refine hK.out _ _ hg2' ?_
 clear hK K hg2
 refine wpU_step rfl (fun K hK => ?_)
 go_simp
 refine (HNa.out w2).mono ?_
 rintro e w3 ⟨rfl, hg3⟩
 have hg3' := hg2'.trans hg3
 refine hK.out _ _ hg3' ?_
 clear hK K hg2' hg3
 refine wpU_step rfl (fun K hK => ?_)
 go_simp
 refine hK.out _ _ (hg3'.alloc _) ?_
 clear hK K
 refine wpU_nil ?_
 have HX3 := hiD (HX1.out.gr (hg3'.alloc (.cells #[.int .i64 4, .int .i64 d, .int .i64 0, .int .i64 0, .bool false, .int .i64 0, .int .i64 0, .int .i64 0, .int .i64 b.lf.kind, .int .i64 (d + 1), .int .i64 b.lf.sign, .int .i64 b.lf.turn, .bool b.lf.mirror, .int .i64 b.lf.state, .int .i64 b.lf.mn, .int .i64 b.lf.mx, .int .i64 a.lf.kind, .int .i64 (d + 1), .int .i64 a.lf.sign, .int .i64 a.lf.turn, .bool a.lf.mirror, .int .i64 a.lf.state, .int .i64 a.lf.mn, .int .i64 a.lf.mx] 51)))
 have hs3 := hg3'.b.size
 have HG3 := hiD (HG1.out.trans (hg3'.alloc (.cells #[.int .i64 4, .int .i64 d, .int .i64 0, .int .i64 0, .bool false, .int .i64 0, .int .i64 0, .int .i64 0, .int .i64 b.lf.kind, .int .i64 (d + 1), .int .i64 b.lf.sign, .int .i64 b.lf.turn, .bool b.lf.mirror, .int .i64 b.lf.state, .int .i64 b.lf.mn, .int .i64 b.lf.mx, .int .i64 a.lf.kind, .int .i64 (d + 1), .int .i64 a.lf.sign, .int .i64 a.lf.turn, .bool a.lf.mirror, .int .i64 a.lf.state, .int .i64 a.lf.mn, .int .i64 a.lf.mx] 51)))
 clear hg3'
 refine wpList_nds rfl _ _ rfl B v out rfl HX3.out.own _ 0 _ (OverN d b a) 3 rfl rfl (fun j u hu => (World.cell?_alloc_at _ _ _ _ (by go_simp)).trans (by simpa [ndc, OverN, bare] using hu)) (by omega) (by simp; omega) ?_
 intro v4 w4 HO4 HS4
 have hform : ∃ g c, v4 = .slice (some ⟨g, 0, none⟩) (out.length + 3) c := by
  exact tZ84
 obtain ⟨g4, c4, hv4⟩ := hform
 subst hv4
 obtain ⟨hbx, hX4, hS4⟩ := HX3.out.step HS4.out HO4.out
 obtain ⟨hc4, hf4⟩ := cell_of_box' hbx
 have HX4 := hiD hX4
 have HS5 := hiD ((StepO.gr HG3.out v).trans hS4)
 clear hbx hX4 hS4 HO4 HS4
 go_wp2
 go_ret
 exact ⟨some (OverN d b a), _, _, HR'.out, rfl, HX4.out, HS5.out, by simp [OverN], fun ns h => by cases h; rfl⟩
end Go.Proofs.OGW
