import Derived.Test.YtmejcmollpbcfaaGreatP22
set_option linter.all false
namespace Go.Proofs.OGW
open Go.RowKit Go.Sort OG Go.Shelf Go.PlainAid
attribute [local go_sem] sA fv sB sG sC Nat.zero_add run_cmSize run_cmPut
attribute [local go_sem ↓] ld66 ld51 st66 st51 execOp_inv0 execOp_inv3
theorem q48 (n : Nat) (h0 : 0 < n) : 0 ≤ (mkRat 48 n).num ∧ (mkRat 48 n).num ≤ 48 ∧ (mkRat 48 n).den ≤ n := by
 refine ⟨?_, ?_, ?_⟩
 ·rw [Rat.num_mkRat, if_neg (by omega)]
  exact Int.ediv_nonneg (by decide) (by omega)
 ·rw [Rat.num_mkRat, if_neg (by omega)]
  exact Int.ediv_le_self _ (by decide)
 ·rw [Rat.den_mkRat, if_neg (by omega)]
  exact Nat.div_le_self _ _
def scaleR (rb ring : Bool) (W H : Nat) : Rat :=
 let s1 := if rb || !ring then leastR 1 (mkRat 48 H) else 1
 if !rb || !ring then leastR s1 (mkRat 48 W) else s1
theorem tZ91 {P : Prop} (h : P := by
 refine wpQuiet_nil ?_
 rintro w' ⟨⟨nq, osq⟩, rfl⟩
 go_wp2
 refine bodyPost_ret (res64 Tryz.results151 rfl ?_) rfl ⟨rfl, ?_⟩
 ·go_simp
 ·exact gw) : P := h
theorem tZ5 {P : Prop} (h : P := by
 rw [hv]
 rw [← hs1] at hl1
 have HF1 := hiD hf1
 have HF2 := hiD hf2
 have HL1 := hiD hl1
 have HL2 := hiD hl2
 clear hv hs1 hf1 hf2 hl1 hl2 qH qW
 have k5 : (n.lf.kind != 5) = true := by simpa using hk
 have k5' : (n.lf.kind == 5) = false := by simpa using hk
 clear hk n1 d1 p1 p2
 simp only [NdAt] at hat
 have c0 := rowV_cell hat 0 _ rfl
 rw [Nat.add_zero] at c0
 clear hE hE' hn hgA hF hB hsz hW hH hwhole e1
 go_enter Tryz.func151, Tryz.ntmps151
 go_wp2_with (first
  | (go_at_call 106; refine (HF.out _ gw).mono ?_; rintro e w' ⟨hgw, p, rfl, hq⟩; have HP := hiD (FigQ.toP _ _ hq); obtain ⟨q, os, rfl⟩ := hgw.eq; clear hgw hq)
  | (go_at_call 45; refine (HWH.out.at _).mono ?_; rintro e w' ⟨rfl, q2, os2, rfl⟩)
  | ((with_reducible refine (HSZ.out _ p HP.out).mono ?_); rintro e w' ⟨rfl, hgw⟩; obtain ⟨q1, os1, rfl⟩ := hgw.eq; clear hgw))
 refine tail_grown 4 (by kernel_rfl) ?_
 simp only [List.take_succ_cons, List.take_zero, List.drop_succ_cons, List.drop_zero]
 repeat (go_big_quiet_step ((first | (go_at_call 83; exact HF1.out.quiet) | (go_at_call 179; exact HL1.out.quiet))))
 refine wpQuiet_nil ?_
 rintro w' ⟨⟨nq, osq⟩, rfl⟩
 go_wp2
 refine tail_grown 4 (by kernel_rfl) ?_
 simp only [List.take_succ_cons, List.take_zero, List.drop_succ_cons, List.drop_zero]
 repeat (go_big_quiet_step ((first | (go_at_call 83; exact HF2.out.quiet) | (go_at_call 179; exact HL2.out.quiet))))
 exact tZ91) : P := h
theorem tZ65 {P : Prop} (h : P := by
 have := size_fig F hB w1 p hp
 rw [hW, hH] at this
 exact this) : P := h
set_option maxHeartbeats 4000000 in
theorem scale_rows (most : Int) (SA : Option Addr) (sn sc : Nat) (A : Option Addr) (len c : Nat) (l : List Sg) (ns : List Nd) (i : Nat) (n : Nd) (w : World) (hE : LayEnv w most SA sn sc A len c l ns) (hn : ns[i]? = some n) (hk : n.lf.kind ≠ 5) (F : Fig) (hB : FigB F)
 (hF : FigAns w (layv most SA sn sc A len c true) i F) (W H : Nat) (hW : figW F = W) (hH : figH F = H) (w0 : 0 < W) (h0 : 0 < H) :
 ∀ w1, Gr w w1 → Calls Tryz.prog 151 #[layv most SA sn sc A len c true, .int .i64 i] w1 fun e w' => e = .returned (fv (scaleR true false W H)) ∧ Gr w1 w' := by
 intro wA hgA
 have hE' := hE.gr hgA
 have hi : i < len := by have := (gO hn).1; have := hE.nl; omega
 have hlen := hE.nb
 have hwh := FigB.wh F hB
 rw [hW, hH] at hwh
 obtain ⟨blk, off, rfl, hat⟩ := hE'.nd.2 i n hn
 have hblk : blk < wA.heap.size := lcc wA _ hat.c0
 have ti : ((i : Nat) : Int).toNat = i := by omega
 have HF := hiD (fun w1 (h1 : Gr wA w1) => hF w1 (hgA.trans h1))
 have hsz : ∀ w1 p, FigP w1 F p → Calls Tryz.prog (sizeF F) #[p] w1 fun e w' => e = .returned (.tuple #[.int .i64 (W : Int), .int .i64 (H : Int)]) ∧ Gr w1 w' := fun w1 p hp => by
  exact tZ65
 have HSZ := hiD hsz
 have qH := q48 H h0
 have qW := q48 W w0
 have hwhole := whole_call 1
 have e1 : ((1 : Int) : Rat) = 1 := rfl
 rw [e1] at hwhole
 have HWH := hiD hwhole
 have n1 : (1 : Rat).num = 1 := rfl
 have d1 : (1 : Rat).den = 1 := rfl
 have hf1 := frac_call 48 H h0 (by omega) (by omega) (by omega)
 have hf2 := frac_call 48 W w0 (by omega) (by omega) (by omega)
 have hl1 := least_call 1 (mkRat 48 H) (by rw [n1]; omega) (by rw [n1]; omega) (by rw [d1]; omega) (by rw [d1]; omega)
 obtain ⟨s1, hs1⟩ : ∃ s1, s1 = leastR 1 (mkRat 48 H) := ⟨_, rfl⟩
 have b1 : 0 ≤ s1.num ∧ s1.num ≤ 48 ∧ s1.den ≤ 1200000 := by rw [hs1]; unfold leastR; split; exact ⟨qH.1, qH.2.1, by omega⟩; exact ⟨by rw [n1]; omega, by rw [n1]; omega, by rw [d1]; omega⟩
 have p1 := prod_bd (x := s1.num) (y := (mkRat 48 W).den) (N := 48) (D := 1200000) (by omega) (by omega) (by omega)
 have p2 := prod_bd (x := (mkRat 48 W).num) (y := s1.den) (N := 48) (D := 1200000) (by omega) (by omega) (by omega)
 have hl2 := least_call s1 (mkRat 48 W) (by omega) (by omega) (by omega) (by omega)
 have hv : scaleR true false W H = leastR s1 (mkRat 48 W) := by simp [scaleR, hs1]
 exact tZ5
set_option maxHeartbeats 4000000 in
theorem scale_cols (most : Int) (SA : Option Addr) (sn sc : Nat) (A : Option Addr) (len c : Nat) (l : List Sg) (ns : List Nd) (i : Nat) (n : Nd) (w : World) (hE : LayEnv w most SA sn sc A len c l ns) (hn : ns[i]? = some n) (hk : n.lf.kind ≠ 5) (F : Fig) (hB : FigB F)
 (hF : FigAns w (layv most SA sn sc A len c false) i F) (W H : Nat) (hW : figW F = W) (hH : figH F = H) (w0 : 0 < W) (h0 : 0 < H) :
 ∀ w1, Gr w w1 → Calls Tryz.prog 151 #[layv most SA sn sc A len c false, .int .i64 i] w1 fun e w' => e = .returned (fv (scaleR false false W H)) ∧ Gr w1 w' := by
 intro wA hgA
 have hE' := hE.gr hgA
 have hi : i < len := by have := (gO hn).1; have := hE.nl; omega
 have hlen := hE.nb
 have hwh := FigB.wh F hB
 rw [hW, hH] at hwh
 obtain ⟨blk, off, rfl, hat⟩ := hE'.nd.2 i n hn
 have hblk : blk < wA.heap.size := lcc wA _ hat.c0
 have ti : ((i : Nat) : Int).toNat = i := by omega
 have HF := hiD (fun w1 (h1 : Gr wA w1) => hF w1 (hgA.trans h1))
 have hsz : ∀ w1 p, FigP w1 F p → Calls Tryz.prog (sizeF F) #[p] w1 fun e w' => e = .returned (.tuple #[.int .i64 (W : Int), .int .i64 (H : Int)]) ∧ Gr w1 w' := fun w1 p hp => by
  exact tZ65
 have HSZ := hiD hsz
 have qH := q48 H h0
 have qW := q48 W w0
 have hwhole := whole_call 1
 have e1 : ((1 : Int) : Rat) = 1 := rfl
 rw [e1] at hwhole
 have HWH := hiD hwhole
 have n1 : (1 : Rat).num = 1 := rfl
 have d1 : (1 : Rat).den = 1 := rfl
 have hf1 := frac_call 48 H h0 (by omega) (by omega) (by omega)
 have hf2 := frac_call 48 W w0 (by omega) (by omega) (by omega)
 have hl1 := least_call 1 (mkRat 48 H) (by rw [n1]; omega) (by rw [n1]; omega) (by rw [d1]; omega) (by rw [d1]; omega)
 obtain ⟨s1, hs1⟩ : ∃ s1, s1 = leastR 1 (mkRat 48 H) := ⟨_, rfl⟩
 have b1 : 0 ≤ s1.num ∧ s1.num ≤ 48 ∧ s1.den ≤ 1200000 := by rw [hs1]; unfold leastR; split; exact ⟨qH.1, qH.2.1, by omega⟩; exact ⟨by rw [n1]; omega, by rw [n1]; omega, by rw [d1]; omega⟩
 have p1 := prod_bd (x := s1.num) (y := (mkRat 48 W).den) (N := 48) (D := 1200000) (by omega) (by omega) (by omega)
 have p2 := prod_bd (x := (mkRat 48 W).num) (y := s1.den) (N := 48) (D := 1200000) (by omega) (by omega) (by omega)
 have hl2 := least_call s1 (mkRat 48 W) (by omega) (by omega) (by omega) (by omega)
 have hv : scaleR false false W H = leastR s1 (mkRat 48 W) := by simp [scaleR, hs1]
 exact tZ5
theorem tZ7 {P : Prop} (h : P := by
 rw [hv]
 have HF1 := hiD hf1
 have HL1 := hiD hl1
 clear hv hf1 hl1 qH qW
 have k5 : (n.lf.kind != 5) = false := by simp [hk]
 have k5' : (n.lf.kind == 5) = true := by simp [hk]
 clear hk n1 d1
 simp only [NdAt] at hat
 have c0 := rowV_cell hat 0 _ rfl
 rw [Nat.add_zero] at c0
 clear hE hE' hn hgA hF hB hsz hW hH hwhole e1
 go_enter Tryz.func151, Tryz.ntmps151
 go_wp2_with (first
  | (go_at_call 106; refine (HF.out _ gw).mono ?_; rintro e w' ⟨hgw, p, rfl, hq⟩; have HP := hiD (FigQ.toP _ _ hq); obtain ⟨q, os, rfl⟩ := hgw.eq; clear hgw hq)
  | (go_at_call 45; refine (HWH.out.at _).mono ?_; rintro e w' ⟨rfl, q2, os2, rfl⟩)
  | ((with_reducible refine (HSZ.out _ p HP.out).mono ?_); rintro e w' ⟨rfl, hgw⟩; obtain ⟨q1, os1, rfl⟩ := hgw.eq; clear hgw))
 refine tail_grown 4 (by kernel_rfl) ?_
 simp only [List.take_succ_cons, List.take_zero, List.drop_succ_cons, List.drop_zero]
 repeat (go_big_quiet_step ((first | (go_at_call 83; exact HF1.out.quiet) | (go_at_call 179; exact HL1.out.quiet))))
 exact tZ91) : P := h
set_option maxHeartbeats 4000000 in
theorem scale_ring_rows (most : Int) (SA : Option Addr) (sn sc : Nat) (A : Option Addr) (len c : Nat) (l : List Sg) (ns : List Nd) (i : Nat) (n : Nd) (w : World) (hE : LayEnv w most SA sn sc A len c l ns) (hn : ns[i]? = some n) (hk : n.lf.kind = 5) (F : Fig) (hB : FigB F)
 (hF : FigAns w (layv most SA sn sc A len c true) i F) (W H : Nat) (hW : figW F = W) (hH : figH F = H) (w0 : 0 < W) (h0 : 0 < H) :
 ∀ w1, Gr w w1 → Calls Tryz.prog 151 #[layv most SA sn sc A len c true, .int .i64 i] w1 fun e w' => e = .returned (fv (scaleR true true W H)) ∧ Gr w1 w' := by
 intro wA hgA
 have hE' := hE.gr hgA
 have hi : i < len := by have := (gO hn).1; have := hE.nl; omega
 have hlen := hE.nb
 have hwh := FigB.wh F hB
 rw [hW, hH] at hwh
 obtain ⟨blk, off, rfl, hat⟩ := hE'.nd.2 i n hn
 have hblk : blk < wA.heap.size := lcc wA _ hat.c0
 have ti : ((i : Nat) : Int).toNat = i := by omega
 have HF := hiD (fun w1 (h1 : Gr wA w1) => hF w1 (hgA.trans h1))
 have hsz : ∀ w1 p, FigP w1 F p → Calls Tryz.prog (sizeF F) #[p] w1 fun e w' => e = .returned (.tuple #[.int .i64 (W : Int), .int .i64 (H : Int)]) ∧ Gr w1 w' := fun w1 p hp => by
  exact tZ65
 have HSZ := hiD hsz
 have qH := q48 H h0
 have qW := q48 W w0
 have hwhole := whole_call 1
 have e1 : ((1 : Int) : Rat) = 1 := rfl
 rw [e1] at hwhole
 have HWH := hiD hwhole
 have n1 : (1 : Rat).num = 1 := rfl
 have d1 : (1 : Rat).den = 1 := rfl
 have hf1 := frac_call 48 H h0 (by omega) (by omega) (by omega)
 have hl1 := least_call 1 (mkRat 48 H) (by rw [n1]; omega) (by rw [n1]; omega) (by rw [d1]; omega) (by rw [d1]; omega)
 have hv : scaleR true true W H = leastR 1 (mkRat 48 H) := by simp [scaleR]
 exact tZ7
set_option maxHeartbeats 4000000 in
theorem scale_ring_cols (most : Int) (SA : Option Addr) (sn sc : Nat) (A : Option Addr) (len c : Nat) (l : List Sg) (ns : List Nd) (i : Nat) (n : Nd) (w : World) (hE : LayEnv w most SA sn sc A len c l ns) (hn : ns[i]? = some n) (hk : n.lf.kind = 5) (F : Fig) (hB : FigB F)
 (hF : FigAns w (layv most SA sn sc A len c false) i F) (W H : Nat) (hW : figW F = W) (hH : figH F = H) (w0 : 0 < W) (h0 : 0 < H) :
 ∀ w1, Gr w w1 → Calls Tryz.prog 151 #[layv most SA sn sc A len c false, .int .i64 i] w1 fun e w' => e = .returned (fv (scaleR false true W H)) ∧ Gr w1 w' := by
 intro wA hgA
 have hE' := hE.gr hgA
 have hi : i < len := by have := (gO hn).1; have := hE.nl; omega
 have hlen := hE.nb
 have hwh := FigB.wh F hB
 rw [hW, hH] at hwh
 obtain ⟨blk, off, rfl, hat⟩ := hE'.nd.2 i n hn
 have hblk : blk < wA.heap.size := lcc wA _ hat.c0
 have ti : ((i : Nat) : Int).toNat = i := by omega
 have HF := hiD (fun w1 (h1 : Gr wA w1) => hF w1 (hgA.trans h1))
 have hsz : ∀ w1 p, FigP w1 F p → Calls Tryz.prog (sizeF F) #[p] w1 fun e w' => e = .returned (.tuple #[.int .i64 (W : Int), .int .i64 (H : Int)]) ∧ Gr w1 w' := fun w1 p hp => by
  exact tZ65
 have HSZ := hiD hsz
 have qH := q48 H h0
 have qW := q48 W w0
 have hwhole := whole_call 1
 have e1 : ((1 : Int) : Rat) = 1 := rfl
 rw [e1] at hwhole
 have HWH := hiD hwhole
 have n1 : (1 : Rat).num = 1 := rfl
 have d1 : (1 : Rat).den = 1 := rfl
 have hf1 := frac_call 48 W w0 (by omega) (by omega) (by omega)
 have hl1 := least_call 1 (mkRat 48 W) (by rw [n1]; omega) (by rw [n1]; omega) (by rw [d1]; omega) (by rw [d1]; omega)
 have hv : scaleR false true W H = leastR 1 (mkRat 48 W) := by simp [scaleR]
 exact tZ7
abbrev gv (node : Int) (s : Rat) (line at' : Int) : Value := .agg #[.int .i64 node, .int .i64 s.num, .int .i64 (s.den : Int), .int .i64 line, .int .i64 at']
theorem res_cells64 {fn : Func} {p q : Tmp} (h : fn.results = #[.cell p 64, .cell q 64]) {tmps : Array Value} {w : World} {n m : Nat} {u v : Value}
 (hp : tmps.getD p undef = .pointer (some ⟨n, 0, none⟩)) (hq : tmps.getD q undef = .pointer (some ⟨m, 0, none⟩)) (hu : rowV 2 w n 0 = some u) (hv : rowV 2 w m 0 = some v) : (results fn tmps).run Tryz.prog w = .ok (.tuple #[u, v]) w := by
 have h1 := run_ldV Tryz.isAgg64 Tryz.sizeOf64 n 0 w
 have h2 := run_ldV Tryz.isAgg64 Tryz.sizeOf64 m 0 w
 rw [hu] at h1
 rw [hv] at h2
 have hp' : tmps[p]?.getD undef = .pointer (some ⟨n, 0, none⟩) := by simpa using hp
 have hq' : tmps[q]?.getD undef = .pointer (some ⟨m, 0, none⟩) := by simpa using hq
 simp only [ldV] at h1 h2
 simp [results, h, hp', hq', asAddr, h1, h2]
theorem times1 (s : Rat) (n : Int) (h1 : -4611686018427387904 ≤ s.num * n) (h2 : s.num * n ≤ 4611686018427387904) (h5 : s.den ≤ 4611686018427387904) : Ans 39 #[fv s, .int .i64 n, .int .i64 1] (fv (s * n)) := by
 have := times_call s n 1 (by decide) h1 h2 (by omega)
 have e : s * (n : Rat) / ((1 : Nat) : Rat) = s * n := by rw [show ((1 : Nat) : Rat) = 1 from rfl]; grind
 rw [e] at this
 exact this
theorem tZ4 {P : Prop} (h : P := by
 have hwh := FigB.wh F hB
 rw [hW, hH] at hwh
 have HF := hiD (fun w1 (h1 : Gr wA w1) => hF w1 (hgA.trans h1))
 have hsz : ∀ w1 p, FigP w1 F p → Calls Tryz.prog (sizeF F) #[p] w1 fun e w' => e = .returned (.tuple #[.int .i64 W, .int .i64 H]) ∧ Gr w1 w' := fun w1 p hp => by
  exact tZ65
 have HSZ := hiD hsz
 have mb : ∀ x : Int, 0 ≤ x → x ≤ 1200000 → 0 ≤ s.num * x ∧ s.num * x ≤ 1000000000 * 1200000 := fun x h1 h2 =>
  ⟨Int.mul_nonneg hs1 h1, Int.le_trans (Int.mul_le_mul_of_nonneg_right hs2 h1) (Int.mul_le_mul_of_nonneg_left h2 (by decide))⟩
 have m1 := mb W (by omega) (by omega)
 have m2 := mb H (by omega) (by omega)
 have HTW := hiD (times1 s W (by omega) (by omega) (by omega))
 have HTH := hiD (times1 s H (by omega) (by omega) (by omega))
 clear hgA hF hB hsz hW hH mb m1 m2 hwh
 go_enter Tryz.func105, Tryz.ntmps105
 go_wp2_with (first
  | (go_at_call 106; refine (HF.out _ gw).mono ?_; rintro e w' ⟨hgw, p, rfl, hq⟩; have HP := hiD (FigQ.toP _ _ hq); obtain ⟨q, os, rfl⟩ := hgw.eq; clear hgw hq)
  | ((with_reducible refine (HSZ.out _ p HP.out).mono ?_); rintro e w' ⟨rfl, hgw⟩; obtain ⟨q1, os1, rfl⟩ := hgw.eq; clear hgw))
 refine tail_grown 8 (by kernel_rfl) ?_
 simp only [List.take_succ_cons, List.take_zero, List.drop_succ_cons, List.drop_zero]
 repeat (go_big_quiet_step ((first | (go_at_call 39; (with_reducible exact HTW.out.quiet)) | (go_at_call 39; (with_reducible exact HTH.out.quiet)))))
 refine wpQuiet_nil ?_
 rintro w' ⟨⟨nq, osq⟩, rfl⟩
 go_wp2
 refine bodyPost_ret (res_cells64 Tryz.results105 rfl rfl ?_ ?_) rfl ⟨rfl, ?_⟩
 ·go_simp
 ·go_simp
 ·exact gw) : P := h
set_option maxHeartbeats 4000000 in
theorem along_rows (most : Int) (SA : Option Addr) (sn sc : Nat) (A : Option Addr) (len c : Nat) (i : Nat) (w : World) (F : Fig) (hB : FigB F)
 (hF : FigAns w (layv most SA sn sc A len c true) i F) (W H : Int) (hW : figW F = W) (hH : figH F = H) (s : Rat) (line at' : Int) (hs1 : 0 ≤ s.num) (hs2 : s.num ≤ 1000000000) (hs3 : s.den ≤ 1000000000) :
 ∀ w1, Gr w w1 → Calls Tryz.prog 105 #[layv most SA sn sc A len c true, gv i s line at'] w1 fun e w' => e = .returned (.tuple #[fv (s * W), fv (s * H)]) ∧ Gr w1 w' := by
 intro wA hgA
 exact tZ4
set_option maxHeartbeats 4000000 in
theorem along_cols (most : Int) (SA : Option Addr) (sn sc : Nat) (A : Option Addr) (len c : Nat) (i : Nat) (w : World) (F : Fig) (hB : FigB F)
 (hF : FigAns w (layv most SA sn sc A len c false) i F) (W H : Int) (hW : figW F = W) (hH : figH F = H) (s : Rat) (line at' : Int) (hs1 : 0 ≤ s.num) (hs2 : s.num ≤ 1000000000) (hs3 : s.den ≤ 1000000000) :
 ∀ w1, Gr w w1 → Calls Tryz.prog 105 #[layv most SA sn sc A len c false, gv i s line at'] w1 fun e w' => e = .returned (.tuple #[fv (s * H), fv (s * W)]) ∧ Gr w1 w' := by
 intro wA hgA
 exact tZ4
end Go.Proofs.OGW
namespace Go.Proofs.OGW
open Go.RowKit Go.Sort OG Go.Shelf Go.PlainAid
attribute [local go_sem] sA fv sB sG sC Nat.zero_add
attribute [local go_sem ↓] ld66 ld51 st66 st51
structure GP where
 node : Int
 s : Rat
 line : Int
 pos : Int
abbrev gcells (g : GP) : List Value := [.int .i64 g.node, .int .i64 g.s.num, .int .i64 (g.s.den : Int), .int .i64 g.line, .int .i64 g.pos]
def gpc (gs : List GP) : List Value := gs.flatMap gcells
theorem gpc_snoc (gs : List GP) (q : GP) : gpc (gs ++ [q]) = gpc gs ++ gcells q := by simp [gpc]
theorem info160 : (Tryz.prog.info? 160).map (fun i => (i.zero, i.size, i.bytes)) = some (some (.agg #[.int .i64 0, .int .i64 0, .int .i64 0, .int .i64 0, .int .i64 0]), 5, 40) := by kernel_rfl
abbrev OwnG (w : World) (B : Nat) (v : Value) (ss : List GP) : Prop := w.ownsRow B 160 5 v ss.length (gpc ss)
theorem OwnG.ne {w : World} {B : Nat} {v : Value} {ss : List GP} (h : OwnG w B v ss) {n : Nat} (hn : w.heap.size ≤ n) : some n ≠ v.ownBlock := fun e => by have := h.lt n e.symm; omega
theorem OwnG.gr {w w' : World} {B : Nat} {v : Value} {ss : List GP} (h : OwnG w B v ss) (hg : Gr w w') : OwnG w' B v ss := h.kept (Gr.by hg) (by cases v.ownBlock <;> simp)
theorem OwnG.low {w : World} {B : Nat} {v : Value} {ss : List GP} (h : OwnG w B v ss) : ∀ k, v.ownBlock = some k → B ≤ k := fun k e => (h.lt k e).1
theorem wpList_grp {w : World} {ops : Array Oper} {rest : List Oper} {o : Oper} {a : Act} {Q : Exit → Act → World → Prop} (hgd : o.guard = none) (s x : Operand)
 (ho : o.op = .call { callee := .builtin .append, args := #[s, x], argTypes := #[157, 157] }) (B : Nat) (v : Value) (ss : List GP) (hs : a.eval s = v) (hown : OwnG w B v ss)
 (g c : Nat) (q : GP) (hx : a.eval x = .slice (some ⟨g, 0, none⟩) 1 c) (hq : ∀ (j : Nat) (u : Value), (gcells q)[j]? = some u → w.cell? ⟨g, j, none⟩ = some u) (hb : ss.length ≤ 2000000) (hbase : B ≤ w.heap.size)
 (h : ∀ v' w', Hid (OwnG w' B v' (ss ++ [q])) → Hid (RowStep w w' v v') → wpList Tryz.prog ops Q rest (a.put o.dst v') w') : wpList Tryz.prog ops Q (o :: rest) a w := by
 obtain ⟨i0, hi, hz0, hz1, hz2⟩ := info_parts info160
 refine wpList_app2 hgd s x 157 ho B 160 i0 _ 5 40 Tryz.underlying157 hi hz0 hz1 hz2 rfl (by decide) v ss.length (gpc ss) hs hown ⟨g, 0, none⟩ 1 c (gcells q) hx rfl ?_ ?_ (by unfold maxLen; omega) (by omega) hbase ?_
 ·intro j u hu
  rw [Addr.add_lit, Nat.zero_add]
  exact hq j u hu
 ·intro u hu
  simp only [gcells, List.mem_cons, List.not_mem_nil, or_false] at hu
  rcases hu with rfl | rfl | rfl | rfl | rfl <;> rfl
 ·intro v' w' HO Hg Hd Hl
  refine h v' w' ?_ ⟨Hg.out, Hd.out, Hl.out⟩
  have := HO.out
  show w'.ownsRow B 160 5 v' (ss ++ [q]).length (gpc (ss ++ [q]))
  rw [gpc_snoc, List.length_append]
  exact this
structure GI where
 node : Nat
 F : Fig
 W : Nat
 H : Nat
 ring : Bool
 nx : Nat
def GI.sc (rb : Bool) (g : GI) : Rat := scaleR rb g.ring g.W g.H
def GI.long (rb : Bool) (g : GI) : Rat := g.sc rb * (((if rb then g.W else g.H : Nat) : Int) : Rat)
def GI.across (rb : Bool) (g : GI) : Rat := g.sc rb * (((if rb then g.H else g.W : Nat) : Int) : Rat)
def standsP (L : Int) (rb : Bool) : List GI → Int → Int → List GP
 | [], _, _ => []
 | g :: r, ln, po => if 0 < po ∧ (L : Rat) < (po : Rat) + g.long rb then ⟨g.node, g.sc rb, ln + 1, 0⟩ :: standsP L rb r (ln + 1) (((0 + 24 : Int) : Rat) + g.long rb).ceil
    else ⟨g.node, g.sc rb, ln, po⟩ :: standsP L rb r ln (((po + 24 : Int) : Rat) + g.long rb).ceil
structure GOk (w : World) (lay : Value) (ns : List Nd) (g : GI) : Prop where
 fig : FigAns w lay g.node g.F
 bd : FigB g.F
 w : figW g.F = g.W
 h : figH g.F = g.H
 w0 : 0 < g.W
 h0 : 0 < g.H
 nd : ∃ n, ns[g.node]? = some n ∧ (n.lf.kind = 5 ↔ g.ring = true)
 nx : endN ns g.node = g.nx
def GChain (w : World) (lay : Value) (ns : List Nd) : Nat → List GI → Prop
 | i, [] => i = ns.length
 | i, g :: r => g.node = i ∧ GOk w lay ns g ∧ GChain w lay ns g.nx r
theorem scale_any (most : Int) (SA : Option Addr) (sn sc : Nat) (A : Option Addr) (len c : Nat) (rb : Bool) (l : List Sg) (ns : List Nd) (w : World) (hE : LayEnv w most SA sn sc A len c l ns) (g : GI) (hg : GOk w (layv most SA sn sc A len c rb) ns g) :
 ∀ w1, Gr w w1 → Calls Tryz.prog 151 #[layv most SA sn sc A len c rb, .int .i64 g.node] w1 fun e w' => e = .returned (fv (g.sc rb)) ∧ Gr w1 w' := by
 obtain ⟨n, hn, hr⟩ := hg.nd
 cases rb <;> cases hc : g.ring
 ·have := scale_cols most SA sn sc A len c l ns g.node n w hE hn (by rw [hc] at hr; simpa using hr) g.F hg.bd hg.fig g.W g.H hg.w hg.h hg.w0 hg.h0
  simpa [GI.sc, hc] using this
 ·have := scale_ring_cols most SA sn sc A len c l ns g.node n w hE hn (by rw [hc] at hr; simpa using hr) g.F hg.bd hg.fig g.W g.H hg.w hg.h hg.w0 hg.h0
  simpa [GI.sc, hc] using this
 ·have := scale_rows most SA sn sc A len c l ns g.node n w hE hn (by rw [hc] at hr; simpa using hr) g.F hg.bd hg.fig g.W g.H hg.w hg.h hg.w0 hg.h0
  simpa [GI.sc, hc] using this
 ·have := scale_ring_rows most SA sn sc A len c l ns g.node n w hE hn (by rw [hc] at hr; simpa using hr) g.F hg.bd hg.fig g.W g.H hg.w hg.h hg.w0 hg.h0
  simpa [GI.sc, hc] using this
theorem sc_bd (rb : Bool) (g : GI) (w0 : 0 < g.W) (h0 : 0 < g.H) (hw : g.W ≤ 1200000) (hh : g.H ≤ 1200000) : 0 ≤ (g.sc rb).num ∧ (g.sc rb).num ≤ 48 ∧ (g.sc rb).den ≤ 1200000 := by
 have q1 := q48 g.W w0
 have q2 := q48 g.H h0
 have n1 : (1 : Rat).num = 1 := rfl
 have d1 : (1 : Rat).den = 1 := rfl
 have bl : ∀ a b : Rat, (0 ≤ a.num ∧ a.num ≤ 48 ∧ a.den ≤ 1200000) → (0 ≤ b.num ∧ b.num ≤ 48 ∧ b.den ≤ 1200000) → (0 ≤ (leastR a b).num ∧ (leastR a b).num ≤ 48 ∧ (leastR a b).den ≤ 1200000) := by
  intro a b ha hb
  unfold leastR
  split
  ·exact hb
  ·exact ha
 have b1 : 0 ≤ (1 : Rat).num ∧ (1 : Rat).num ≤ 48 ∧ (1 : Rat).den ≤ 1200000 := by rw [n1, d1]; omega
 have bH : 0 ≤ (mkRat 48 g.H).num ∧ (mkRat 48 g.H).num ≤ 48 ∧ (mkRat 48 g.H).den ≤ 1200000 := ⟨q2.1, q2.2.1, by omega⟩
 have bW : 0 ≤ (mkRat 48 g.W).num ∧ (mkRat 48 g.W).num ≤ 48 ∧ (mkRat 48 g.W).den ≤ 1200000 := ⟨q1.1, q1.2.1, by omega⟩
 unfold GI.sc scaleR
 cases rb <;> cases g.ring <;> simp only [Bool.not_true, Bool.not_false, Bool.or_true, Bool.or_false, Bool.false_eq_true, if_true, if_false]
 ·exact bl _ _ (bl _ _ b1 bH) bW
 ·exact bl _ _ b1 bW
 ·exact bl _ _ (bl _ _ b1 bH) bW
 ·exact bl _ _ b1 bH
theorem along_any (most : Int) (SA : Option Addr) (sn sc : Nat) (A : Option Addr) (len c : Nat) (rb : Bool) (ns : List Nd) (w : World) (g : GI) (hg : GOk w (layv most SA sn sc A len c rb) ns g) (ln po : Int) :
 ∀ w1, Gr w w1 → Calls Tryz.prog 105 #[layv most SA sn sc A len c rb, gv g.node (g.sc rb) ln po] w1 fun e w' => e = .returned (.tuple #[fv (g.long rb), fv (g.across rb)]) ∧ Gr w1 w' := by
 have hb := FigB.wh g.F hg.bd
 rw [hg.w, hg.h] at hb
 have hs := sc_bd rb g hg.w0 hg.h0 (by omega) (by omega)
 cases rb
 ·exact along_cols most SA sn sc A len c g.node w g.F hg.bd hg.fig g.W g.H hg.w hg.h (g.sc false) ln po hs.1 (by omega) (by omega)
 ·exact along_rows most SA sn sc A len c g.node w g.F hg.bd hg.fig g.W g.H hg.w hg.h (g.sc true) ln po hs.1 (by omega) (by omega)
end Go.Proofs.OGW
