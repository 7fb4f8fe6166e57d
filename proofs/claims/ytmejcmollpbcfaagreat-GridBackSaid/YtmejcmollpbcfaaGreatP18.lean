import Derived.Test.YtmejcmollpbcfaaGreatP17
set_option linter.all false
namespace Go.Proofs.OGW
open Go.RowKit Go.Sort OG Go.Shelf Go.PlainAid
attribute [local go_sem] sA fv sB sG sC Nat.zero_add run_cmSize
attribute [local go_sem ↓] ld66 ld51 st66 st51 execOp_inv0 execOp_inv3
theorem run_putM (k : Fig) (p a b c : Value) (w : World) : (callMethod (.iface (figT k) p) "ostracon/grid.put" #[a, b, c]).run Tryz.prog w = .ok (.enter (putF k) #[p, a, b, c]) w := by
 cases k <;> kernel_rfl
theorem run_cmPut (k : Fig) (p a b c : Value) (w : World) : (cmV (.iface (figT k) p) "ostracon/grid.put" #[a, b, c]).run Tryz.prog w = .ok (.enter (putF k) #[p, a, b, c]) w := run_putM k p a b c w
attribute [local go_sem] run_cmPut
structure Spot where
 node : Int
 x : Int
 y : Int
 w : Int
 h : Int
abbrev scells (s : Spot) : List Value := [.int .i64 s.node, .int .i64 s.x, .int .i64 s.y, .int .i64 s.w, .int .i64 s.h]
def spc (ss : List Spot) : List Value := ss.flatMap scells
theorem spc_snoc (ss : List Spot) (q : Spot) : spc (ss ++ [q]) = spc ss ++ scells q := by simp [spc]
mutual
def spots : Fig → Int → Int → List Spot
 | .leaf n a b, x, y => [⟨n, x, y, 4 * a, 4 * b⟩]
 | .over n a b m _ _, x, y => [⟨n, x, y, 4 * a, 4 * b⟩, ⟨m, x + a, y + b, 2 * a, 2 * b⟩]
 | .beside ks s, x, y => spotsB s (maxFH ks) ks x y
 | .above ks s, x, y => spotsA s (maxFW ks) ks x y
 | .ring n f, x, y => ⟨n, x, y, 4 * (figW f + 24), 4 * (figH f + 24)⟩ :: spots f (x + 48) (y + 48)
def spotsB (s m : Int) : List Fig → Int → Int → List Spot
 | [], _, _ => []
 | k :: r, x, y => spots k x (y + 2 * (m - figH k)) ++ spotsB s m r (x + 4 * (figW k + s)) y
def spotsA (s m : Int) : List Fig → Int → Int → List Spot
 | [], _, _ => []
 | k :: r, x, y => spots k (x + 2 * (m - figW k)) y ++ spotsA s m r x (y + 4 * (figH k + s))
end
structure RowStep (w w' : World) (v v' : Value) : Prop where
 by' : w.grownBy w' v.ownBlock
 dr : w.drawn ≤ w'.drawn
 loc : v'.ownBlock = v.ownBlock ∨ ∀ k, v'.ownBlock = some k → w.heap.size ≤ k
theorem RowStep.gr {w w' : World} (h : Gr w w') (v : Value) : RowStep w w' v v :=
 ⟨⟨h.b.os, h.b.tape, h.b.output, h.b.size, fun k hk _ => h.b.block k hk⟩, h.d, .inl rfl⟩
theorem RowStep.trans {w w1 w2 : World} {v v1 v2 : Value} (a : RowStep w w1 v v1) (b : RowStep w1 w2 v1 v2) : RowStep w w2 v v2 where
 by' := ⟨b.by'.os.trans a.by'.os, b.by'.tape.trans a.by'.tape, b.by'.output.trans a.by'.output, Nat.le_trans a.by'.size b.by'.size, fun k hk hne => by
  have h1 : some k ≠ v1.ownBlock := by
   rcases a.loc with e | e
   ·rw [e]; exact hne
   ·intro h; have := e k h.symm; omega
  exact (b.by'.block k (Nat.lt_of_lt_of_le hk a.by'.size) h1).trans (a.by'.block k hk hne)⟩
 dr := Nat.le_trans a.dr b.dr
 loc := by
  rcases b.loc with e | e
  ·rw [e]; exact a.loc
  ·exact .inr fun k hk => Nat.le_trans a.by'.size (e k hk)
theorem RowStep.gr_of {w0 w w' : World} {v v' : Value} (h : RowStep w w' v v') (hg : Gr w0 w) (hv : ∀ k, v.ownBlock = some k → w0.heap.size ≤ k) : Gr w0 w' := hg.grown h.by' hv h.dr
theorem RowStep.cell {w w' : World} {v v' : Value} (h : RowStep w w' v v') {n i : Nat} {u : Value} (hc : w.cell? ⟨n, i, none⟩ = some u) (hne : some n ≠ v.ownBlock) : w'.cell? ⟨n, i, none⟩ = some u :=
 (World.cell?_of_block (h.by'.block n (lcc w _ hc) hne)).trans hc
theorem info169 : (Tryz.prog.info? 169).map (fun i => (i.zero, i.size, i.bytes)) = some (some (.agg #[.int .i64 0, .int .i64 0, .int .i64 0, .int .i64 0, .int .i64 0]), 5, 40) := by kernel_rfl
abbrev OwnS (w : World) (B : Nat) (v : Value) (ss : List Spot) : Prop := w.ownsRow B 169 5 v ss.length (spc ss)
theorem wpList_spot {w : World} {ops : Array Oper} {rest : List Oper} {o : Oper} {a : Act} {Q : Exit → Act → World → Prop} (hgd : o.guard = none) (s x : Operand)
 (ho : o.op = .call { callee := .builtin .append, args := #[s, x], argTypes := #[163, 163] }) (B : Nat) (v : Value) (ss : List Spot) (hs : a.eval s = v) (hown : OwnS w B v ss)
 (g c : Nat) (q : Spot) (hx : a.eval x = .slice (some ⟨g, 0, none⟩) 1 c) (hq : ∀ (j : Nat) (u : Value), (scells q)[j]? = some u → w.cell? ⟨g, j, none⟩ = some u) (hb : ss.length ≤ 2000000) (hbase : B ≤ w.heap.size)
 (h : ∀ v' w', Hid (OwnS w' B v' (ss ++ [q])) → Hid (RowStep w w' v v') → wpList Tryz.prog ops Q rest (a.put o.dst v') w') : wpList Tryz.prog ops Q (o :: rest) a w := by
 obtain ⟨i0, hi, hz0, hz1, hz2⟩ := info_parts info169
 refine wpList_app2 hgd s x 163 ho B 169 i0 _ 5 40 Tryz.underlying163 hi hz0 hz1 hz2 rfl (by decide) v ss.length (spc ss) hs hown ⟨g, 0, none⟩ 1 c (scells q) hx rfl ?_ ?_ (by unfold maxLen; omega) (by omega) hbase ?_
 ·intro j u hu
  rw [Addr.add_lit, Nat.zero_add]
  exact hq j u hu
 ·intro u hu
  simp only [scells, List.mem_cons, List.not_mem_nil, or_false] at hu
  rcases hu with rfl | rfl | rfl | rfl | rfl <;> rfl
 ·intro v' w' HO Hg Hd Hl
  refine h v' w' ?_ ⟨Hg.out, Hd.out, Hl.out⟩
  have := HO.out
  show w'.ownsRow B 169 5 v' (ss ++ [q]).length (spc (ss ++ [q]))
  rw [spc_snoc, List.length_append]
  exact this
def PutPost (w0 w : World) (v : Value) (ss : List Spot) : Ending → World → Prop := fun e w' => ∃ v', e = .returned v' ∧ OwnS w' w0.heap.size v' ss ∧ RowStep w w' v v'
def PutOk (k : Fig) : Prop := ∀ (w0 w : World) (p v : Value) (ss : List Spot) (x y : Int), FigP w0 k p → Gr w0 w → OwnS w w0.heap.size v ss → 0 ≤ x → x + 4 * figW k ≤ 1000000000 → 0 ≤ y → y + 4 * figH k ≤ 1000000000 →
 ss.length + (spots k x y).length ≤ 1000000 → Calls Tryz.prog (putF k) #[p, v, .int .i64 x, .int .i64 y] w (PutPost w0 w v (ss ++ spots k x y))
set_option maxHeartbeats 1000000 in
theorem leafPut (n a b : Int) (hB : FigB (.leaf n a b)) : PutOk (.leaf n a b) := by
 intro w0 w p v ss x y hp hg hown x0 x1 y0 y1 hlen
 cases hp
 unfold FigB at hB
 show Calls Tryz.prog 264 _ _ (PutPost w0 w v (ss ++ [⟨n, x, y, 4 * a, 4 * b⟩]))
 have HG := hiD hg
 have HO := hiD hown
 have hsz := hg.b.size
 have hl : ss.length ≤ 1000000 := by omega
 clear hg hown hlen
 go_enter Tryz.func264, Tryz.ntmps264
 go_wp2_with (at_builtin; refine wpList_spot rfl _ _ rfl w0.heap.size v ss rfl ((HO.out.kept (Gr.by ((Gr.refl w).alloc _)) (by cases v.ownBlock <;> simp)).kept (Gr.by ((Gr.refl _).alloc _)) (by cases v.ownBlock <;> simp)) _ _ ⟨n, x, y, 4 * a, 4 * b⟩ rfl (fun j u hu => (World.cell?_alloc_at _ _ _ _ (by simp)).trans (by simpa using hu)) (by omega) (by simp; omega) ?_; intro v' w1 HO1 HS)
 go_ret
 exact ⟨v', rfl, HO1.out, (RowStep.gr (((Gr.refl w).alloc _).alloc _) v).trans HS.out⟩
theorem OwnS.ne {w : World} {B : Nat} {v : Value} {ss : List Spot} (h : OwnS w B v ss) {n : Nat} (hn : w.heap.size ≤ n) : some n ≠ v.ownBlock := fun e => by have := h.lt n e.symm; omega
theorem OwnS.gr {w w' : World} {B : Nat} {v : Value} {ss : List Spot} (h : OwnS w B v ss) (hg : Gr w w') : OwnS w' B v ss := h.kept (Gr.by hg) (by cases v.ownBlock <;> simp)
theorem OwnS.low {w : World} {B : Nat} {v : Value} {ss : List Spot} (h : OwnS w B v ss) : ∀ k, v.ownBlock = some k → B ≤ k := fun k e => (h.lt k e).1
set_option maxHeartbeats 1000000 in
theorem overPut (n a b m c d : Int) (hB : FigB (.over n a b m c d)) : PutOk (.over n a b m c d) := by
 intro w0 w p v ss x y hp hg hown x0 x1 y0 y1 hlen
 cases hp
 have hBl : FigB (.leaf n a b) := by unfold FigB at hB ⊢; exact hB
 unfold FigB at hB
 unfold figW at x1
 unfold figH at y1
 show Calls Tryz.prog 266 _ _ (PutPost w0 w v (ss ++ [⟨n, x, y, 4 * a, 4 * b⟩, ⟨m, x + a, y + b, 2 * a, 2 * b⟩]))
 have HG := hiD hg
 have HO := hiD hown
 have HBL := hiD hBl
 have hsz := hg.b.size
 have hne := hown.ne (Nat.le_refl _)
 have HNE := hiD hne
 have hl : ss.length + 2 ≤ 1000000 := by simpa [spots] using hlen
 have hls := leafSize_call n a b
 have hpt : ∀ w1, Gr w w1 → Calls Tryz.prog 264 #[.agg #[.int .i64 n, .int .i64 a, .int .i64 b], v, .int .i64 x, .int .i64 y] w1 (PutPost w0 w1 v (ss ++ [⟨n, x, y, 4 * a, 4 * b⟩])) := fun w1 h1 =>
  leafPut n a b HBL.out w0 w1 _ v ss x y rfl (HG.out.trans h1) (HO.out.gr h1) x0 x1 y0 y1 (by simp [spots]; omega)
 have HPT := hiD hpt
 clear hg hown hlen hBl hpt hne
 go_enter Tryz.func266, Tryz.ntmps266
 go_wp2_with (first
  | (go_at_call 265; refine (hls.at _).mono ?_; rintro e w' ⟨rfl, q, os, rfl⟩)
  | (go_at_call 264; refine (HPT.out _ gw).mono ?_; rintro e w' hpost; obtain ⟨v1, rfl, hown1, hst⟩ := hpost; have HST := hiD hst; have HO1 := hiD hown1; have c3 := hst.cell (n := w.heap.size) (i := 3) (u := .int .i64 m) (by go_simp) HNE.out; have hb3 := lcc w' _ c3; have hsz2 := hst.by'.size; clear hst hown1)
  | (at_builtin; refine wpList_spot rfl _ _ rfl w0.heap.size v1 (ss ++ [⟨n, x, y, 4 * a, 4 * b⟩]) rfl (HO1.out.gr ((Gr.refl _).alloc _)) _ _ ⟨m, x + a, y + b, 2 * a, 2 * b⟩ rfl (fun j u hu => (World.cell?_alloc_at _ _ _ _ (by simp)).trans (by simpa using hu)) (by simp; omega) (by simp at hsz2 ⊢; omega) ?_; intro v' w2 HO2 HS2))
 go_ret
 refine ⟨v', rfl, ?_, ?_⟩
 ·have := HO2.out
  rw [List.append_assoc] at this
  exact this
 ·exact ((RowStep.gr gw v).trans HST.out).trans ((RowStep.gr ((Gr.refl _).alloc _) v1).trans HS2.out)
set_option maxHeartbeats 1000000 in
theorem ringPut (n : Int) (f : Fig) (hB : FigB (.ring n f)) (hf : PutOk f) : PutOk (.ring n f) := by
 intro w0 w p v ss x y hp hg hown x0 x1 y0 y1 hlen
 obtain ⟨q, rfl, hq⟩ := hp
 have hb := FigB.wh f hB.1
 unfold figW at x1
 unfold figH at y1
 have hsize : ∀ w1, Gr w w1 → Calls Tryz.prog 269 #[.agg #[.int .i64 n, .iface (figT f) q]] w1 fun e w' => e = .returned (.tuple #[.int .i64 (figW f + 24), .int .i64 (figH f + 24)]) ∧ Gr w1 w' := fun w1 h1 =>
  size_fig (.ring n f) hB w1 _ ⟨q, rfl, FigP.gr (hg.trans h1) f q hq⟩
 show Calls Tryz.prog 268 _ _ (PutPost w0 w v (ss ++ (⟨n, x, y, 4 * (figW f + 24), 4 * (figH f + 24)⟩ :: spots f (x + 48) (y + 48))))
 have hl : ss.length + 1 + (spots f (x + 48) (y + 48)).length ≤ 1000000 := by simp [spots] at hlen; omega
 have hpt : ∀ w1 v1, Gr w0 w1 → OwnS w1 w0.heap.size v1 (ss ++ [⟨n, x, y, 4 * (figW f + 24), 4 * (figH f + 24)⟩]) → Calls Tryz.prog (putF f) #[q, v1, .int .i64 (x + 48), .int .i64 (y + 48)] w1 (PutPost w0 w1 v1 ((ss ++ [⟨n, x, y, 4 * (figW f + 24), 4 * (figH f + 24)⟩]) ++ spots f (x + 48) (y + 48))) := fun w1 v1 h1 h2 =>
  hf w0 w1 q v1 _ (x + 48) (y + 48) hq h1 h2 (by omega) (by omega) (by omega) (by omega) (by simp; omega)
 have HG := hiD hg
 have HO := hiD hown
 have HSZ := hiD hsize
 have HPT := hiD hpt
 have HNE := hiD (hown.ne (Nat.le_refl _))
 have hsz := hg.b.size
 have z1 : IntKind.i64.wrap (figW f + 24) = figW f + 24 := IntWalk.i64_in _ ⟨by omega, by omega⟩
 have z2 : IntKind.i64.wrap (figH f + 24) = figH f + 24 := IntWalk.i64_in _ ⟨by omega, by omega⟩
 have z3 : IntKind.i64.wrap (4 * (figW f + 24)) = 4 * (figW f + 24) := IntWalk.i64_in _ ⟨by omega, by omega⟩
 have z4 : IntKind.i64.wrap (4 * (figH f + 24)) = 4 * (figH f + 24) := IntWalk.i64_in _ ⟨by omega, by omega⟩
 clear hg hown hlen hpt hsize hf hq hB
 go_enter Tryz.func268, Tryz.ntmps268
 go_wp2_with (first
  | (go_at_call 269; refine (HSZ.out _ gw).mono ?_; rintro e w1 ⟨rfl, hgw⟩; have HGW := hiD hgw; have c0 := hgw.cell (p := ⟨w.heap.size, 0, none⟩) (v := .int .i64 n) (by go_simp); have c1 := hgw.cell (p := ⟨w.heap.size, 1, none⟩) (v := .iface (figT f) q) (by go_simp); have hb1 := lcc w1 _ c0; have hsz1 := hgw.b.size; clear hgw)
  | (at_builtin; refine wpList_spot rfl _ _ rfl w0.heap.size v ss rfl ((HO.out.gr (((Gr.refl _).alloc _).trans HGW.out)).gr ((Gr.refl _).alloc _)) _ _ ⟨n, x, y, 4 * (figW f + 24), 4 * (figH f + 24)⟩ rfl (fun j u hu => (World.cell?_alloc_at _ _ _ _ (by simp)).trans (by simpa using hu)) (by omega) (by simp at hsz1 ⊢; omega) ?_; intro v1 w2 HO2 HS2; have d1 := HS2.out.cell (n := w.heap.size) (i := 1) (u := .iface (figT f) q) (by go_simp) HNE.out; have hb2 := lcc w2 _ d1)
  | ((with_reducible refine (HPT.out _ v1 ?_ HO2.out).mono ?_)))
 ·exact (RowStep.trans (RowStep.gr (((Gr.refl _).alloc _).trans HGW.out) v) ((RowStep.gr ((Gr.refl _).alloc _) v).trans HS2.out)).gr_of HG.out HO.out.low
 rintro e w3 hpost
 obtain ⟨v', rfl, hown3, hst⟩ := hpost
 have HST := hiD hst
 have HO3 := hiD hown3
 clear hst hown3
 go_wp2
 go_ret
 refine ⟨v', rfl, ?_, ?_⟩
 ·simpa [List.append_assoc] using HO3.out
 ·exact (RowStep.trans (RowStep.gr (((Gr.refl _).alloc _).trans HGW.out) v) ((RowStep.gr ((Gr.refl _).alloc _) v).trans HS2.out)).trans HST.out
def stepW (s : Int) : List Fig → Int
 | [] => 0
 | k :: r => figW k + s + stepW s r
def stepH (s : Int) : List Fig → Int
 | [] => 0
 | k :: r => figH k + s + stepH s r
theorem stepW_eq (s : Int) : ∀ ks : List Fig, stepW s ks = s * (ks.length : Int) + sumFW ks
 | [] => by simp [stepW, sumFW]
 | k :: r => by rw [stepW, sumFW, stepW_eq s r, List.length_cons, Int.natCast_add, Int.mul_add]; simp; omega
theorem stepH_eq (s : Int) : ∀ ks : List Fig, stepH s ks = s * (ks.length : Int) + sumFH ks
 | [] => by simp [stepH, sumFH]
 | k :: r => by rw [stepH, sumFH, stepH_eq s r, List.length_cons, Int.natCast_add, Int.mul_add]; simp; omega
theorem step_nn (s : Int) (hs : 0 ≤ s) : ∀ ks : List Fig, FigBs ks → 0 ≤ stepW s ks ∧ 0 ≤ stepH s ks
 | [], _ => by simp [stepW, stepH]
 | k :: r, h => by have := FigB.wh k h.1; have := step_nn s hs r h.2; simp only [stepW, stepH]; omega
theorem maxF_ge : ∀ {ks : List Fig} {k : Fig}, k ∈ ks → figW k ≤ maxFW ks ∧ figH k ≤ maxFH ks
 | [], _, h => by cases h
 | x :: r, k, h => by
   rcases List.mem_cons.1 h with e | h
   ·subst e; unfold maxFW maxFH; omega
   ·have := maxF_ge h; unfold maxFW maxFH; omega
theorem FigBs.drop {ks : List Fig} (h : FigBs ks) (j : Nat) : FigBs (ks.drop j) := FigBs.of fun k hk => h.all k (List.mem_of_mem_drop hk)
theorem tZ104 {P : Prop} (h : P := by
 rcases HRS.out.loc with e | e
 ·rw [e]; exact HNE.out
 ·intro h; have h3 := e _ h.symm; have h4 : w.heap.size < w1.heap.size := hb1; omega) : P := h
theorem tZ117 {P : Prop} (h : P := by
 have HSP2 := hiD hsp
 clear e1 hsp
 go_wp2
 go_ret
 refine ⟨u1, rfl, ?_, R1.out.trans HRS.out⟩
 rw [← HSP2.out]
 exact HOW.out) : P := h
set_option maxHeartbeats 4000000 in
theorem besidePut (ks : List Fig) (s : Int) (hB : FigB (.beside ks s)) (hks : ∀ k ∈ ks, PutOk k) : PutOk (.beside ks s) := by
 intro w0 w p v ss x y hp hg hown x0 x1 y0 y1 hlen
 have hwh := FigB.wh _ hB
 have hsize : ∀ w1, Gr w w1 → Calls Tryz.prog 261 #[p] w1 fun e w' => e = .returned (.tuple #[.int .i64 (figW (.beside ks s)), .int .i64 (figH (.beside ks s))]) ∧ Gr w1 w' := fun w1 h1 =>
  size_fig (.beside ks s) hB w1 p (FigP.gr (hg.trans h1) _ p hp)
 obtain ⟨A, c, rfl, hat⟩ := hp
 have hfh : figH (.beside ks s) = maxFH ks := rfl
 have hfw : figW (.beside ks s) = s * ((ks.length : Int) - 1) + sumFW ks := rfl
 have hst0 : stepW s ks = figW (.beside ks s) + s := by rw [stepW_eq, hfw, Int.mul_sub]; omega
 unfold FigB at hB
 obtain ⟨b1, b2, b3, b4, b5, b6⟩ := hB
 show Calls Tryz.prog 260 _ _ (PutPost w0 w v (ss ++ spotsB s (maxFH ks) ks x y))
 change ss.length + (spotsB s (maxFH ks) ks x y).length ≤ 1000000 at hlen
 rw [hfh] at hwh y1 hsize
 clear hfh hfw
 obtain ⟨W, hW⟩ : ∃ W, W = figW (.beside ks s) := ⟨_, rfl⟩
 rw [← hW] at hwh x1 hsize hst0
 obtain ⟨M, hM⟩ : ∃ M, M = maxFH ks := ⟨_, rfl⟩
 rw [← hM] at hwh y1 hsize hlen ⊢
 obtain ⟨n, hn⟩ : ∃ n, n = ks.length := ⟨_, rfl⟩
 rw [← hn] at b3 b4 hsize ⊢
 have HN := hiD hn
 have HM := hiD hM
 have HAT := hiD hat
 have HK := hiD hks
 have B6 := hiD b6
 have HG := hiD hg
 have HO := hiD hown
 have HSZ := hiD hsize
 have HNE := hiD (hown.ne (Nat.le_refl _))
 have HLEN := hiD hlen
 have hsz := hg.b.size
 have HST0 := hiD hst0
 clear hn hM hat hks b6 b5 hg hown hsize hlen hW hst0
 go_enter Tryz.func260, Tryz.ntmps260
 go_upto_region 2 with (go_at_call 261; refine (HSZ.out _ gw).mono ?_; rintro e w1 ⟨rfl, hgw⟩; have HGW := hiD hgw; have c0 := hgw.cell (p := ⟨w.heap.size, 0, none⟩) (v := .slice A n c) (by go_simp); have c1 := hgw.cell (p := ⟨w.heap.size, 1, none⟩) (v := .int .i64 s) (by go_simp); have hb1 := lcc w1 _ c0; have hsz1 := hgw.b.size; clear hgw)
 have C1 := hiD c1
 have R1 := hiD (RowStep.gr (((Gr.refl w).alloc _).trans HGW.out) v)
 have G1 := hiD (HG.out.trans (((Gr.refl w).alloc _).trans HGW.out))
 have O1 := hiD (HO.out.gr (((Gr.refl w).alloc _).trans HGW.out))
 clear c1
 go_wp2
 go_loopw [23, 1, 2] (fun i u xx wr => ∃ (j : Nat) (v1 : Value) (D : List Spot) (X : Int), i = .int .i64 j ∧ j ≤ n ∧ u = v1 ∧ xx = .int .i64 X ∧ 0 ≤ X ∧ Hid (OwnS wr w0.heap.size v1 (ss ++ D)) ∧ Hid (RowStep w1 wr v v1) ∧
  Hid (X + 4 * stepW s (ks.drop j) ≤ 1000000000 + 4 * s) ∧ Hid (D ++ spotsB s M (ks.drop j) X y = spotsB s M ks x y)) (fun i _ _ _ => n - (intOf i).toNat)
 case atStart => exact ⟨0, v, [], x, rfl, Nat.zero_le _, rfl, rfl, x0, by (show OwnS w1 w0.heap.size v (ss ++ []); simpa using O1.out), RowStep.gr (Gr.refl _) v, by rw [List.drop_zero, HST0.out]; show _ ≤ _; omega, rfl⟩
 case round =>
  obtain ⟨j, v1, D, X, rfl, hj, rfl, rfl, hX, HOW, HRS, HBD, HSP⟩ := hrel
  by_cases hjl : j < n
  ·have hd : decide ((j : Int) < (n : Int)) = true := by simp; omega
   obtain ⟨k, hk⟩ : ∃ k, ks[j]? = some k := ⟨_, gE (by rw [← HN.out]; exact hjl)⟩
   have hjk : j < ks.length := by rw [← HN.out]; exact hjl
   have hkj : ks[j] = k := by rw [gE hjk] at hk; exact Option.some.inj hk
   have hdr : ks.drop j = k :: ks.drop (j + 1) := by rw [List.drop_eq_getElem_cons hjk, hkj]
   obtain ⟨blk, off, q, rfl, hc, hq⟩ := HAT.out.get hk
   rw [Nat.zero_add] at hc
   have hkm := List.mem_of_getElem? hk
   have hkb := FigB.wh k (B6.out.all k hkm)
   have hmx := (maxF_ge hkm).2
   rw [← HM.out] at hmx
   have hsn := step_nn s b1 (ks.drop (j + 1)) (B6.out.drop _)
   have hbd := HBD.out
   rw [hdr, stepW] at hbd
   have hsp := HSP.out
   rw [hdr, spotsB] at hsp
   have hcnt : (ss ++ D).length + (spots k X (y + 2 * (M - figH k))).length ≤ 1000000 := by
    have := HLEN.out
    rw [← hsp] at this
    simp only [List.length_append] at this ⊢
    omega
   have g0 : Gr w0 wr := HRS.out.gr_of G1.out (HO.out.low)
   have hcw := g0.cell (p := ⟨blk, off + j, none⟩) (hc)
   have hblk := lcc wr _ hcw
   have hs1 := HRS.out.cell (n := w.heap.size) (i := 1) C1.out HNE.out
   have hb2 := lcc wr _ hs1
   have hsizek := fun w2 (h2 : Gr wr w2) => size_fig k (B6.out.all k hkm) w2 q (FigP.gr (g0.trans h2) k q hq)
   have hputk := fun w2 (h2 : Gr wr w2) => HK.out k hkm w0 w2 q u1 (ss ++ D) X (y + 2 * (M - figH k)) hq (g0.trans h2) (HOW.out.gr h2) hX (by omega) (by omega) (by omega) hcnt
   have HSK := hiD hsizek
   have HPK := hiD hputk
   have HSP2 := hiD hsp
   have HDR := hiD hdr
   have HBD2 := hiD hbd
   have HN1 := hiD (HOW.out.ne (n := wr.heap.size) (Nat.le_refl _))
   have hne2 : some w.heap.size ≠ u1.ownBlock := by
    exact tZ104
   have HNE2 := hiD hne2
   have z1 : IntKind.i64.wrap (M - figH k) = M - figH k := IntWalk.i64_in _ ⟨by omega, by omega⟩
   have z2 : IntKind.i64.wrap (2 * (M - figH k)) = 2 * (M - figH k) := IntWalk.i64_in _ ⟨by omega, by omega⟩
   have z3 : IntKind.i64.wrap (y + 2 * (M - figH k)) = y + 2 * (M - figH k) := IntWalk.i64_in _ ⟨by omega, by omega⟩
   have z4 : IntKind.i64.wrap (figW k + s) = figW k + s := IntWalk.i64_in _ ⟨by omega, by omega⟩
   have z5 : IntKind.i64.wrap (4 * (figW k + s)) = 4 * (figW k + s) := IntWalk.i64_in _ ⟨by omega, by omega⟩
   have z6 : IntKind.i64.wrap (X + 4 * (figW k + s)) = X + 4 * (figW k + s) := IntWalk.i64_in _ ⟨by omega, by omega⟩
   have tj : ((j : Nat) : Int).toNat = j := by omega
   clear hk hkj hdr hc hq hbd hsp hcnt g0 hsizek hputk hne2
   go_wp2_with (first
    | ((with_reducible refine (HSK.out _ (Gr.refl _)).mono ?_); rintro e w2 ⟨rfl, hgw2⟩; have HG2 := hiD hgw2; have hb3 := hgw2.b.size; clear hgw2)
    | ((with_reducible refine (HPK.out _ HG2.out).mono ?_); rintro e w3 hpost; obtain ⟨v2, rfl, hown2, hst2⟩ := hpost; have HST2 := hiD hst2; have HO2 := hiD hown2; have d1 := hst2.cell (n := w.heap.size) (i := 1) (HG2.out.cell hs1) HNE2.out; have hb4 := lcc w3 _ d1; clear hst2 hown2))
   go_roundw
   case rel =>
    refine ⟨j + 1, v2, D ++ spots k X (y + 2 * (M - figH k)), X + 4 * (figW k + s), by go_num, by omega, rfl, rfl, by omega, ?_, HRS.out.trans ((RowStep.gr HG2.out u1).trans HST2.out), ?_, ?_⟩
    ·have := HO2.out
     rw [List.append_assoc] at this
     exact this
    ·have := HBD2.out
     show _ ≤ _
     omega
    ·have := HSP2.out
     rw [← List.append_assoc] at this
     exact this
   case measure => simp [intOf]; omega
  ·obtain rfl : j = n := by omega
   have hd : decide ((j : Int) < (j : Int)) = false := by simp
   have e1 : ks.drop j = [] := List.drop_eq_nil_of_le (by rw [HN.out]; exact Nat.le_refl _)
   have hsp := HSP.out
   rw [e1, spotsB, List.append_nil] at hsp
   exact tZ117
end Go.Proofs.OGW
