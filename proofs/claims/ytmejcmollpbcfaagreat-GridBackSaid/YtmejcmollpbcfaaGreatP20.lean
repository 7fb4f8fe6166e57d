import Derived.Test.YtmejcmollpbcfaaGreatP18
import Derived.Test.YtmejcmollpbcfaaGreatP19
set_option linter.all false
namespace Go.Proofs.OGW
open Go.RowKit Go.Sort OG Go.Shelf Go.PlainAid
attribute [local go_sem] sA fv sB sG sC Nat.zero_add run_cmSize run_cmPut
attribute [local go_sem ↓] ld66 ld51 st66 st51 execOp_inv0 execOp_inv3
set_option maxHeartbeats 4000000 in
theorem abovePut (ks : List Fig) (s : Int) (hB : FigB (.above ks s)) (hks : ∀ k ∈ ks, PutOk k) : PutOk (.above ks s) := by
 intro w0 w p v ss x y hp hg hown x0 x1 y0 y1 hlen
 have hwh := FigB.wh _ hB
 have hsize : ∀ w1, Gr w w1 → Calls Tryz.prog 263 #[p] w1 fun e w' => e = .returned (.tuple #[.int .i64 (figW (.above ks s)), .int .i64 (figH (.above ks s))]) ∧ Gr w1 w' := fun w1 h1 =>
  size_fig (.above ks s) hB w1 p (FigP.gr (hg.trans h1) _ p hp)
 obtain ⟨A, c, rfl, hat⟩ := hp
 have hfh : figW (.above ks s) = maxFW ks := rfl
 have hfw : figH (.above ks s) = s * ((ks.length : Int) - 1) + sumFH ks := rfl
 have hst0 : stepH s ks = figH (.above ks s) + s := by rw [stepH_eq, hfw, Int.mul_sub]; omega
 unfold FigB at hB
 obtain ⟨b1, b2, b3, b4, b5, b6⟩ := hB
 show Calls Tryz.prog 262 _ _ (PutPost w0 w v (ss ++ spotsA s (maxFW ks) ks x y))
 change ss.length + (spotsA s (maxFW ks) ks x y).length ≤ 1000000 at hlen
 rw [hfh] at hwh x1 hsize
 clear hfh hfw
 obtain ⟨W, hW⟩ : ∃ W, W = figH (.above ks s) := ⟨_, rfl⟩
 rw [← hW] at hwh y1 hsize hst0
 obtain ⟨M, hM⟩ : ∃ M, M = maxFW ks := ⟨_, rfl⟩
 rw [← hM] at hwh x1 hsize hlen ⊢
 obtain ⟨n, hn⟩ : ∃ n, n = ks.length := ⟨_, rfl⟩
 rw [← hn] at b3 b4 hsize ⊢
 have HN := hiD hn
 have HM := hiD hM
 have HAT := hiD hat
 have HK := hiD hks
 have B6 := hiD b6
 have HG := hiD hg
 have HO := hiD hown
 have HSZ := hiD hsize
 have HNE := hiD (hown.ne (Nat.le_refl _))
 have HLEN := hiD hlen
 have hsz := hg.b.size
 have HST0 := hiD hst0
 clear hn hM hat hks b6 b5 hg hown hsize hlen hW hst0
 go_enter Tryz.func262, Tryz.ntmps262
 go_upto_region 2 with (go_at_call 263; refine (HSZ.out _ gw).mono ?_; rintro e w1 ⟨rfl, hgw⟩; have HGW := hiD hgw; have c0 := hgw.cell (p := ⟨w.heap.size, 0, none⟩) (v := .slice A n c) (by go_simp); have c1 := hgw.cell (p := ⟨w.heap.size, 1, none⟩) (v := .int .i64 s) (by go_simp); have hb1 := lcc w1 _ c0; have hsz1 := hgw.b.size; clear hgw)
 have C1 := hiD c1
 have R1 := hiD (RowStep.gr (((Gr.refl w).alloc _).trans HGW.out) v)
 have G1 := hiD (HG.out.trans (((Gr.refl w).alloc _).trans HGW.out))
 have O1 := hiD (HO.out.gr (((Gr.refl w).alloc _).trans HGW.out))
 clear c1
 go_wp2
 go_loopw [23, 1, 3] (fun i u xx wr => ∃ (j : Nat) (v1 : Value) (D : List Spot) (X : Int), i = .int .i64 j ∧ j ≤ n ∧ u = v1 ∧ xx = .int .i64 X ∧ 0 ≤ X ∧ Hid (OwnS wr w0.heap.size v1 (ss ++ D)) ∧ Hid (RowStep w1 wr v v1) ∧
  Hid (X + 4 * stepH s (ks.drop j) ≤ 1000000000 + 4 * s) ∧ Hid (D ++ spotsA s M (ks.drop j) x X = spotsA s M ks x y)) (fun i _ _ _ => n - (intOf i).toNat)
 case atStart => exact ⟨0, v, [], y, rfl, Nat.zero_le _, rfl, rfl, y0, by (show OwnS w1 w0.heap.size v (ss ++ []); simpa using O1.out), RowStep.gr (Gr.refl _) v, by rw [List.drop_zero, HST0.out]; show _ ≤ _; omega, rfl⟩
 case round =>
  obtain ⟨j, v1, D, X, rfl, hj, rfl, rfl, hX, HOW, HRS, HBD, HSP⟩ := hrel
  by_cases hjl : j < n
  ·have hd : decide ((j : Int) < (n : Int)) = true := by simp; omega
   obtain ⟨k, hk⟩ : ∃ k, ks[j]? = some k := ⟨_, gE (by rw [← HN.out]; exact hjl)⟩
   have hjk : j < ks.length := by rw [← HN.out]; exact hjl
   have hkj : ks[j] = k := by rw [gE hjk] at hk; exact Option.some.inj hk
   have hdr : ks.drop j = k :: ks.drop (j + 1) := by rw [List.drop_eq_getElem_cons hjk, hkj]
   obtain ⟨blk, off, q, rfl, hc, hq⟩ := HAT.out.get hk
   rw [Nat.zero_add] at hc
   have hkm := List.mem_of_getElem? hk
   have hkb := FigB.wh k (B6.out.all k hkm)
   have hmx := (maxF_ge hkm).1
   rw [← HM.out] at hmx
   have hsn := step_nn s b1 (ks.drop (j + 1)) (B6.out.drop _)
   have hbd := HBD.out
   rw [hdr, stepH] at hbd
   have hsp := HSP.out
   rw [hdr, spotsA] at hsp
   have hcnt : (ss ++ D).length + (spots k (x + 2 * (M - figW k)) X).length ≤ 1000000 := by
    have := HLEN.out
    rw [← hsp] at this
    simp only [List.length_append] at this ⊢
    omega
   have g0 : Gr w0 wr := HRS.out.gr_of G1.out (HO.out.low)
   have hcw := g0.cell (p := ⟨blk, off + j, none⟩) (hc)
   have hblk := lcc wr _ hcw
   have hs1 := HRS.out.cell (n := w.heap.size) (i := 1) C1.out HNE.out
   have hb2 := lcc wr _ hs1
   have hsizek := fun w2 (h2 : Gr wr w2) => size_fig k (B6.out.all k hkm) w2 q (FigP.gr (g0.trans h2) k q hq)
   have hputk := fun w2 (h2 : Gr wr w2) => HK.out k hkm w0 w2 q u1 (ss ++ D) (x + 2 * (M - figW k)) X hq (g0.trans h2) (HOW.out.gr h2) (by omega) (by omega) hX (by omega) hcnt
   have HSK := hiD hsizek
   have HPK := hiD hputk
   have HSP2 := hiD hsp
   have HDR := hiD hdr
   have HBD2 := hiD hbd
   have HN1 := hiD (HOW.out.ne (n := wr.heap.size) (Nat.le_refl _))
   have hne2 : some w.heap.size ≠ u1.ownBlock := by
    exact tZ104
   have HNE2 := hiD hne2
   have z1 : IntKind.i64.wrap (M - figW k) = M - figW k := IntWalk.i64_in _ ⟨by omega, by omega⟩
   have z2 : IntKind.i64.wrap (2 * (M - figW k)) = 2 * (M - figW k) := IntWalk.i64_in _ ⟨by omega, by omega⟩
   have z3 : IntKind.i64.wrap (x + 2 * (M - figW k)) = x + 2 * (M - figW k) := IntWalk.i64_in _ ⟨by omega, by omega⟩
   have z4 : IntKind.i64.wrap (figH k + s) = figH k + s := IntWalk.i64_in _ ⟨by omega, by omega⟩
   have z5 : IntKind.i64.wrap (4 * (figH k + s)) = 4 * (figH k + s) := IntWalk.i64_in _ ⟨by omega, by omega⟩
   have z6 : IntKind.i64.wrap (X + 4 * (figH k + s)) = X + 4 * (figH k + s) := IntWalk.i64_in _ ⟨by omega, by omega⟩
   have tj : ((j : Nat) : Int).toNat = j := by omega
   clear hk hkj hdr hc hq hbd hsp hcnt g0 hsizek hputk hne2
   go_wp2_with (first
    | ((with_reducible refine (HSK.out _ (Gr.refl _)).mono ?_); rintro e w2 ⟨rfl, hgw2⟩; have HG2 := hiD hgw2; have hb3 := hgw2.b.size; clear hgw2)
    | ((with_reducible refine (HPK.out _ HG2.out).mono ?_); rintro e w3 hpost; obtain ⟨v2, rfl, hown2, hst2⟩ := hpost; have HST2 := hiD hst2; have HO2 := hiD hown2; have d1 := hst2.cell (n := w.heap.size) (i := 1) (HG2.out.cell hs1) HNE2.out; have hb4 := lcc w3 _ d1; clear hst2 hown2))
   go_roundw
   case rel =>
    refine ⟨j + 1, v2, D ++ spots k (x + 2 * (M - figW k)) X, X + 4 * (figH k + s), by go_num, by omega, rfl, rfl, by omega, ?_, HRS.out.trans ((RowStep.gr HG2.out u1).trans HST2.out), ?_, ?_⟩
    ·have := HO2.out
     rw [List.append_assoc] at this
     exact this
    ·have := HBD2.out
     show _ ≤ _
     omega
    ·have := HSP2.out
     rw [← List.append_assoc] at this
     exact this
   case measure => simp [intOf]; omega
  ·obtain rfl : j = n := by omega
   have hd : decide ((j : Int) < (j : Int)) = false := by simp
   have e1 : ks.drop j = [] := List.drop_eq_nil_of_le (by rw [HN.out]; exact Nat.le_refl _)
   have hsp := HSP.out
   rw [e1, spotsA, List.append_nil] at hsp
   exact tZ117
mutual
theorem put_fig : ∀ (k : Fig), FigB k → PutOk k
 | .leaf n a b, h => leafPut n a b h
 | .over n a b m c d, h => overPut n a b m c d h
 | .beside ks s, h => besidePut ks s h (put_figs ks (by unfold FigB at h; exact h.2.2.2.2.2))
 | .above ks s, h => abovePut ks s h (put_figs ks (by unfold FigB at h; exact h.2.2.2.2.2))
 | .ring n f, h => ringPut n f h (put_fig f (by unfold FigB at h; exact h.1))
theorem put_figs : ∀ (ks : List Fig), FigBs ks → ∀ k ∈ ks, PutOk k
 | [], _, k, hk => by cases hk
 | x :: r, h, k, hk => by
   rcases List.mem_cons.1 hk with e | hk
   ·rw [e]; exact put_fig x h.1
   ·exact put_figs r h.2 k hk
end
end Go.Proofs.OGW
namespace Go.Proofs.OGW
open Go.RowKit Go.Sort OG Go.Shelf Go.PlainAid
attribute [local go_sem] sA fv sB sG sC Nat.zero_add
attribute [local go_sem ↓] ld66 ld51 st66 st51
def zOf (most : Int) (l : List Sg) : Sz where
 w f := if f.kind = 6 then 12 * f.mx else 4 * (sizeP most l f.sign f.turn).1
 h f := if f.kind = 6 then 24 else 4 * (sizeP most l f.sign f.turn).2.1
structure LayEnv (w : World) (most : Int) (SA : Option Addr) (sn sc : Nat) (A : Option Addr) (len c : Nat) (l : List Sg) (ns : List Nd) : Prop where
 sg : SgRow w SA l
 sl : l.length = sn
 sb : sn ≤ 1000000
 nd : NdRow w A ns
 nl : ns.length = len
 nb : len ≤ 1000000
theorem LayEnv.gr {w w' : World} {most : Int} {SA : Option Addr} {sn sc : Nat} {A : Option Addr} {len c : Nat} {l : List Sg} {ns : List Nd} (h : LayEnv w most SA sn sc A len c l ns) (hg : Gr w w') : LayEnv w' most SA sn sc A len c l ns :=
 ⟨h.sg.gr hg, h.sl, h.sb, h.nd.gr hg, h.nl, h.nb⟩
def LfB (most : Int) (l : List Sg) (f : Lf) : Prop := 0 ≤ f.mx ∧ f.mx ≤ 10000 ∧ 0 ≤ (sizeP most l f.sign f.turn).1 ∧ (sizeP most l f.sign f.turn).1 ≤ 10000 ∧ 0 ≤ (sizeP most l f.sign f.turn).2.1 ∧ (sizeP most l f.sign f.turn).2.1 ≤ 10000
theorem res242 {fn : Func} {p : Tmp} (h : fn.results = #[.cell p 242]) {tmps : Array Value} {w : World} {n : Nat} {v : Value}
 (hp : tmps.getD p undef = .pointer (some ⟨n, 0, none⟩)) (hv : rowV 3 w n 0 = some v) : (results fn tmps).run Tryz.prog w = .ok v w := res_cell Tryz.isAgg242 Tryz.sizeOf242 h hp hv
set_option maxHeartbeats 2000000 in
theorem leafL_call (most : Int) (SA : Option Addr) (sn sc : Nat) (A : Option Addr) (len c : Nat) (rb : Bool) (l : List Sg) (ns : List Nd) (i : Nat) (n : Nd) (w : World) (hE : LayEnv w most SA sn sc A len c l ns) (hn : ns[i]? = some n) (hb : LfB most l n.lf) :
 Calls Tryz.prog 154 #[layv most SA sn sc A len c rb, .int .i64 i] w fun e w' => e = .returned (.agg #[.int .i64 i, .int .i64 ((zOf most l).w n.lf), .int .i64 ((zOf most l).h n.lf)]) ∧ Gr w w' := by
 have hi : i < len := by have := (gO hn).1; have := hE.nl; omega
 have hlen := hE.nb
 obtain ⟨blk, off, rfl, hat⟩ := hE.nd.2 i n hn
 have hsz := fun w1 (hg : Gr w w1) => signSize_call most SA sc l n.lf.sign n.lf.turn w1 (hE.sg.gr hg) sn hE.sl hE.sb
 have HSZ := hiD hsz
 obtain ⟨b1, b2, b3, b4, b5, b6⟩ := hb
 have hblk : blk < w.heap.size := lcc w _ hat.c0
 have ti : ((i : Nat) : Int).toNat = i := by omega
 simp only [NdAt] at hat
 clear hsz hE hn
 by_cases h6 : n.lf.kind = 6
 ·have hw : (zOf most l).w n.lf = 12 * n.lf.mx := by simp [zOf, h6]
  have hh : (zOf most l).h n.lf = 24 := by simp [zOf, h6]
  rw [hw, hh]
  have hd : (n.lf.kind == 6) = true := by simp [h6]
  clear hw hh h6
  go_enter Tryz.func154, Tryz.ntmps154
  go_wp2
  refine bodyPost_ret (res242 Tryz.results154 rfl ?_) rfl ⟨rfl, ?_⟩
  ·go_simp
  ·exact gw
 ·have hw : (zOf most l).w n.lf = 4 * (sizeP most l n.lf.sign n.lf.turn).1 := by simp [zOf, h6]
  have hh : (zOf most l).h n.lf = 4 * (sizeP most l n.lf.sign n.lf.turn).2.1 := by simp [zOf, h6]
  rw [hw, hh]
  have hd : (n.lf.kind == 6) = false := by simp [h6]
  obtain ⟨x, hx⟩ : ∃ x, x = sizeP most l n.lf.sign n.lf.turn := ⟨_, rfl⟩
  rw [← hx] at HSZ b3 b4 b5 b6 ⊢
  clear hw hh h6 hx
  obtain ⟨x0, x1, x2⟩ := x
  simp only [tup3] at HSZ b3 b4 b5 b6 ⊢
  go_enter Tryz.func154, Tryz.ntmps154
  go_wp2_with (go_at_call 145; refine (HSZ.out _ gw).mono ?_; rintro e w' ⟨rfl, hgw⟩; obtain ⟨q, os, rfl⟩ := hgw.eq; clear hgw)
  refine bodyPost_ret (res242 Tryz.results154 rfl ?_) rfl ⟨rfl, ?_⟩
  ·go_simp
  ·exact gw
mutual
def FigQ (w : World) (S : Nat → Prop) : Fig → Value → Prop
 | .leaf n a b, v => v = .agg #[.int .i64 n, .int .i64 a, .int .i64 b]
 | .over n a b m c d, v => v = .agg #[.int .i64 n, .int .i64 a, .int .i64 b, .int .i64 m, .int .i64 c, .int .i64 d]
 | .beside ks s, v => ∃ A c, v = .agg #[.slice A ks.length c, .int .i64 s] ∧ FigsQ w S A 0 ks
 | .above ks s, v => ∃ A c, v = .agg #[.slice A ks.length c, .int .i64 s] ∧ FigsQ w S A 0 ks
 | .ring n f, v => ∃ p, v = .agg #[.int .i64 n, .iface (figT f) p] ∧ FigQ w S f p
def FigsQ (w : World) (S : Nat → Prop) (A : Option Addr) : Nat → List Fig → Prop
 | _, [] => True
 | j, k :: r => (∃ blk off p, A = some ⟨blk, off, none⟩ ∧ S blk ∧ w.cell? ⟨blk, off + j, none⟩ = some (.iface (figT k) p) ∧ FigQ w S k p) ∧ FigsQ w S A (j + 1) r
end
mutual
theorem FigQ.toP {w : World} {S : Nat → Prop} : ∀ (k : Fig) (v : Value), FigQ w S k v → FigP w k v
 | .leaf .., _, h => h
 | .over .., _, h => h
 | .beside ks s, _, h => by obtain ⟨A, c, e, h⟩ := h; exact ⟨A, c, e, FigsQ.toP A 0 ks h⟩
 | .above ks s, _, h => by obtain ⟨A, c, e, h⟩ := h; exact ⟨A, c, e, FigsQ.toP A 0 ks h⟩
 | .ring n f, _, h => by obtain ⟨p, e, h⟩ := h; exact ⟨p, e, FigQ.toP f p h⟩
theorem FigsQ.toP {w : World} {S : Nat → Prop} (A : Option Addr) : ∀ (j : Nat) (ks : List Fig), FigsQ w S A j ks → FigsAt w A j ks
 | _, [], _ => trivial
 | j, k :: r, h => by obtain ⟨⟨b, o, p, e, _, hc, hp⟩, hr⟩ := h; exact ⟨⟨b, o, p, e, hc, FigQ.toP k p hp⟩, FigsQ.toP A (j + 1) r hr⟩
end
mutual
theorem FigQ.mono {w w' : World} {S S' : Nat → Prop} (h : ∀ b, S b → S' b ∧ w'.heap[b]? = w.heap[b]?) : ∀ (k : Fig) (v : Value), FigQ w S k v → FigQ w' S' k v
 | .leaf .., _, h => h
 | .over .., _, h => h
 | .beside ks s, _, hq => by obtain ⟨A, c, e, hq⟩ := hq; exact ⟨A, c, e, FigsQ.mono h A 0 ks hq⟩
 | .above ks s, _, hq => by obtain ⟨A, c, e, hq⟩ := hq; exact ⟨A, c, e, FigsQ.mono h A 0 ks hq⟩
 | .ring n f, _, hq => by obtain ⟨p, e, hq⟩ := hq; exact ⟨p, e, FigQ.mono h f p hq⟩
theorem FigsQ.mono {w w' : World} {S S' : Nat → Prop} (h : ∀ b, S b → S' b ∧ w'.heap[b]? = w.heap[b]?) (A : Option Addr) : ∀ (j : Nat) (ks : List Fig), FigsQ w S A j ks → FigsQ w' S' A j ks
 | _, [], _ => trivial
 | j, k :: r, hq => by
   obtain ⟨⟨b, o, p, e, hb, hc, hp⟩, hr⟩ := hq
   exact ⟨⟨b, o, p, e, (h b hb).1, (World.cell?_of_block (h b hb).2).trans hc, FigQ.mono h k p hp⟩, FigsQ.mono h A (j + 1) r hr⟩
end
theorem FigsQ.of {w : World} {S : Nat → Prop} {blk off : Nat} : ∀ (ks : List Fig) (j : Nat), (ks ≠ [] → S blk) → (∀ (i : Nat) (k : Fig), ks[i]? = some k → ∃ p, w.cell? ⟨blk, off + (j + i), none⟩ = some (.iface (figT k) p) ∧ FigQ w S k p) → FigsQ w S (some ⟨blk, off, none⟩) j ks
 | [], _, _, _ => trivial
 | k :: r, j, hS, h => by
   obtain ⟨p, hc, hp⟩ := h 0 k rfl
   refine ⟨⟨blk, off, p, rfl, hS (by simp), hc, hp⟩, FigsQ.of r (j + 1) (fun _ => hS (by simp)) fun i k' hk' => ?_⟩
   have := h (i + 1) k' (by simpa using hk')
   rw [show j + 1 + i = j + (i + 1) by omega]
   exact this
def FigRet (w1 : World) (f : Fig) : Ending → World → Prop := fun e w' => Gr w1 w' ∧ ∃ p, e = .returned (.iface (figT f) p) ∧ FigQ w' (fun b => w1.heap.size ≤ b ∧ b < w'.heap.size) f p
def KidsRet (w1 : World) (ks : List Fig) : Ending → World → Prop := fun e w' => Gr w1 w' ∧ ∃ A c, e = .returned (.slice A ks.length c) ∧ FigsQ w' (fun b => w1.heap.size ≤ b ∧ b < w'.heap.size) A 0 ks
def KidsChain (F : Nat → Fig → Prop) (ns : List Nd) (e : Nat) : Nat → List Fig → Prop
 | k, [] => k = e
 | k, f :: r => k < e ∧ F k f ∧ KidsChain F ns e (endN ns k) r
theorem info165 : (Tryz.prog.info? 165).map (fun i => (i.zero, i.size, i.bytes)) = some (some .nilIface, 1, 16) := by kernel_rfl
structure KidsSt (B : Nat) (wr : World) (v : Value) (fs : List Fig) (ps : List Value) : Prop where
 len : ps.length = fs.length
 own : wr.ownsRow B 165 1 v ps.length ps
 figs : ∀ (j : Nat) (f : Fig), fs[j]? = some f → ∃ p, ps[j]? = some (.iface (figT f) p) ∧ FigQ wr (fun b => B ≤ b ∧ b < wr.heap.size ∧ some b ≠ v.ownBlock) f p
theorem KidsSt.gr {B : Nat} {wr w' : World} {v : Value} {fs : List Fig} {ps : List Value} (h : KidsSt B wr v fs ps) (hg : Gr wr w') : KidsSt B w' v fs ps where
 len := h.len
 own := h.own.kept (Gr.by hg) (by cases v.ownBlock <;> simp)
 figs j f hf := by
  obtain ⟨p, h1, h2⟩ := h.figs j f hf
  exact ⟨p, h1, FigQ.mono (fun b hb => ⟨⟨hb.1, Nat.lt_of_lt_of_le hb.2.1 hg.b.size, hb.2.2⟩, hg.b.block b hb.2.1⟩) f p h2⟩
theorem KidsSt.app {B : Nat} {w0 wr w' : World} {v v' : Value} {fs : List Fig} {ps : List Value} {f : Fig} {p : Value} (h : KidsSt B wr v fs ps) (hst : RowStep wr w' v v') (ho : w'.ownsRow B 165 1 v' (ps.length + 1) (ps ++ [.iface (figT f) p]))
 (hq : FigQ wr (fun b => B ≤ b ∧ b < wr.heap.size ∧ some b ≠ v.ownBlock) f p) : KidsSt B w' v' (fs ++ [f]) (ps ++ [.iface (figT f) p]) where
 len := by simp [h.len]
 own := by simpa using ho
 figs j g hg := by
  have mv : ∀ (b : Nat), (B ≤ b ∧ b < wr.heap.size ∧ some b ≠ v.ownBlock) → (B ≤ b ∧ b < w'.heap.size ∧ some b ≠ v'.ownBlock) ∧ w'.heap[b]? = wr.heap[b]? := fun b hb => by
   refine ⟨⟨hb.1, Nat.lt_of_lt_of_le hb.2.1 hst.by'.size, ?_⟩, hst.by'.block b hb.2.1 hb.2.2⟩
   rcases hst.loc with e | e
   ·rw [e]; exact hb.2.2
   ·intro h2; have h3 := e b h2.symm; have := hb.2.1; omega
  rcases Nat.lt_or_ge j fs.length with hj | hj
  ·rw [List.getElem?_append_left hj] at hg
   obtain ⟨q, h1, h2⟩ := h.figs j g hg
   exact ⟨q, by rw [List.getElem?_append_left (by rw [h.len]; exact hj)]; exact h1, FigQ.mono mv g q h2⟩
  ·have hj0 : j = fs.length := by have := (gO hg).1; simp at this; omega
   subst hj0
   simp only [List.getElem?_append_right (Nat.le_refl _), Nat.sub_self, List.getElem?_cons_zero, Option.some.injEq] at hg
   subst hg
   exact ⟨p, by rw [← h.len]; simp, FigQ.mono mv f p hq⟩
theorem wpList_figA {w : World} {ops : Array Oper} {rest : List Oper} {o : Oper} {a : Act} {Q : Exit → Act → World → Prop} (hgd : o.guard = none) (s x : Operand)
 (ho : o.op = .call { callee := .builtin .append, args := #[s, x], argTypes := #[236, 236] }) (B : Nat) (v : Value) (n : Nat) (ps : List Value) (hs : a.eval s = v) (hown : w.ownsRow B 165 1 v n ps)
 (g c : Nat) (t : TypeId) (q : Value) (hx : a.eval x = .slice (some ⟨g, 0, none⟩) 1 c) (hq : w.cell? ⟨g, 0, none⟩ = some (.iface t q)) (hb : n ≤ 2000000) (hbase : B ≤ w.heap.size)
 (h : ∀ v' w', Hid (w'.ownsRow B 165 1 v' (n + 1) (ps ++ [.iface t q])) → Hid (RowStep w w' v v') → wpList Tryz.prog ops Q rest (a.put o.dst v') w') : wpList Tryz.prog ops Q (o :: rest) a w := by
 obtain ⟨i0, hi, hz0, hz1, hz2⟩ := info_parts info165
 refine wpList_app2 hgd s x 236 ho B 165 i0 _ 1 16 Tryz.underlying236 hi hz0 hz1 hz2 rfl (by decide) v n ps hs hown ⟨g, 0, none⟩ 1 c [.iface t q] hx rfl ?_ ?_ (by unfold maxLen; omega) (by omega) hbase ?_
 ·intro j u hu
  cases j with
  | zero => simp only [List.getElem?_cons_zero, Option.some.injEq] at hu; subst hu; rw [Addr.add_lit]; exact hq
  | succ j => simp at hu
 ·intro u hu
  obtain rfl := List.mem_singleton.1 hu
  rfl
 ·intro v' w' HO Hg Hd Hl
  exact h v' w' HO.out ⟨Hg.out, Hd.out, Hl.out⟩
def FigAns (w : World) (lay : Value) (k : Nat) (f : Fig) : Prop := ∀ w1, Gr w w1 → Calls Tryz.prog 106 #[lay, .int .i64 k] w1 (FigRet w1 f)
def KidsAns (w : World) (lay : Value) (k : Nat) (ks : List Fig) : Prop := ∀ w1, Gr w w1 → Calls Tryz.prog 153 #[lay, .int .i64 k] w1 (KidsRet w1 ks)
set_option maxHeartbeats 4000000 in
theorem kids_call (most : Int) (SA : Option Addr) (sn sc : Nat) (A : Option Addr) (len c : Nat) (rb : Bool) (l : List Sg) (ns : List Nd) (i : Nat) (w : World) (hE : LayEnv w most SA sn sc A len c l ns) (hi : i < len) (ks : List Fig)
 (hch : KidsChain (FigAns w (layv most SA sn sc A len c rb)) ns (endN ns i) (i + 1) ks) (hks : ks.length ≤ 1000000) : KidsAns w (layv most SA sn sc A len c rb) i ks := by
 intro wA hgA
 have hE' := hE.gr hgA
 have hlen := hE.nb
 have hend : ∀ k, k < len → ∀ w1, Gr wA w1 → Calls Tryz.prog 150 #[layv most SA sn sc A len c rb, .int .i64 k] w1 fun e w' => e = .returned (.int .i64 (endN ns k : Nat)) ∧ Gr w1 w' := fun k hk w1 h1 =>
  layEnd_call most SA sn sc A c rb ns k w1 (hE'.gr h1).nd len hE.nl hE.nb hk
 have HEND := hiD hend
 have hle := endN_le (ns := ns) (i := i) (by rw [hE.nl]; exact hi)
 rw [hE.nl] at hle
 have HNL := hiD hE.nl
 have HCH := hiD hch
 have HGA := hiD hgA
 obtain ⟨e, he⟩ : ∃ e, e = endN ns i := ⟨_, rfl⟩
 have HE := hiD he
 rw [← he] at hle HCH
 clear hE hE' hend hch hgA he
 go_enter Tryz.func153, Tryz.ntmps153
 go_upto_region 1 with fail
 have m0 : (wA.alloc (.cells #[.int .i64 most, .slice SA sn sc, .slice A len c, .bool rb] 95)).cell? ⟨wA.heap.size, 0, none⟩ = some (.int .i64 most) := by go_simp
 have m1 : (wA.alloc (.cells #[.int .i64 most, .slice SA sn sc, .slice A len c, .bool rb] 95)).cell? ⟨wA.heap.size, 1, none⟩ = some (.slice SA sn sc) := by go_simp
 have m2 : (wA.alloc (.cells #[.int .i64 most, .slice SA sn sc, .slice A len c, .bool rb] 95)).cell? ⟨wA.heap.size, 2, none⟩ = some (.slice A len c) := by go_simp
 have m3 : (wA.alloc (.cells #[.int .i64 most, .slice SA sn sc, .slice A len c, .bool rb] 95)).cell? ⟨wA.heap.size, 3, none⟩ = some (.bool rb) := by go_simp
 have g1 : Gr wA (wA.alloc (.cells #[.int .i64 most, .slice SA sn sc, .slice A len c, .bool rb] 95)) := (Gr.refl wA).alloc _
 have s1 : (wA.alloc (.cells #[.int .i64 most, .slice SA sn sc, .slice A len c, .bool rb] 95)).heap.size = wA.heap.size + 1 := by simp
 generalize wA.alloc (.cells #[.int .i64 most, .slice SA sn sc, .slice A len c, .bool rb] 95) = W1 at m0 m1 m2 m3 g1 s1 ⊢
 have S1 := hiD s1
 have M0 := hiD m0
 have M1 := hiD m1
 have M2 := hiD m2
 have M3 := hiD m3
 have G1 := hiD g1
 clear m0 m1 m2 m3 g1 s1
 go_wp2
 go_loopw [5, 4] (fun kk u wr => ∃ (k : Nat) (fs rest : List Fig) (ps : List Value), kk = .int .i64 k ∧ i < k ∧ k ≤ e ∧ Hid (ks = fs ++ rest) ∧ Hid (KidsChain (FigAns w (layv most SA sn sc A len c rb)) ns e k rest) ∧
  Hid (KidsSt W1.heap.size wr u fs ps) ∧ Hid (RowStep W1 wr (.slice none 0 0) u)) (fun kk _ _ => len + 1 - (intOf kk).toNat)
 case atStart => exact ⟨i + 1, [], ks, [], by go_num, by omega, by omega, rfl, HCH.out, ⟨rfl, World.ownsRow_nil _ _ _ _, fun j f hj => by simp at hj⟩, RowStep.gr (Gr.refl _) _⟩
 case round =>
  obtain ⟨k, fs, rest, ps, rfl, hik, hke, HKS, HC, HST, HRS⟩ := hrel
  have hgr : Gr W1 wr := HRS.out.gr_of (Gr.refl _) (by simp [Value.ownBlock])
  have HGR := hiD hgr
  have c0 := hgr.cell M0.out
  have c1 := hgr.cell M1.out
  have c2 := hgr.cell M2.out
  have c3 := hgr.cell M3.out
  have hb0 := lcc wr _ c0
  have HEI := hiD (HEND.out i hi)
  clear hgr
  cases rest with
  | nil =>
    obtain rfl : k = e := HC.out
    go_wp2_with (go_at_call 150; refine (HEI.out _ (G1.out.trans HGR.out)).mono ?_; rw [← HE.out]; rintro e' w' ⟨rfl, hgw⟩; have HGW := hiD hgw; clear hgw)
    go_ret
    have hst := HST.out.gr HGW.out
    have hks0 : ks = fs := by have := HKS.out; simpa using this
    subst hks0
    refine ⟨G1.out.trans (HGR.out.trans HGW.out), ?_⟩
    have hl := hst.len
    rcases hst.own.2 with ⟨rfl, h0⟩ | ⟨g, cap, cur, rfl, hbg, hgb, hnc, hcm, hcs, htk⟩
    ·have : ks = [] := List.eq_nil_of_length_eq_zero (by omega)
     subst this
     exact ⟨none, 0, rfl, trivial⟩
    ·refine ⟨some ⟨g, 0, none⟩, cap, by rw [hl]; rfl, ?_⟩
     have hgw : g < w'.heap.size := (Array.getElem?_eq_some_iff.1 hgb).1
     have hS1 := S1.out
     refine FigsQ.of ks 0 (fun _ => ⟨by omega, hgw⟩) fun j f hf => ?_
     obtain ⟨p, h1, h2⟩ := hst.figs j f hf
     refine ⟨p, ?_, FigQ.mono (fun b hb => ⟨⟨by omega, hb.2.1⟩, rfl⟩) f p h2⟩
     have := hst.own.cells (g := g) rfl j _ h1
     rw [Addr.add_lit] at this
     simpa using this
  | cons f rest =>
    obtain ⟨hlt, hF, hC⟩ := HC.out
    have HF := hiD (hF)
    have HC2 := hiD hC
    have hd : decide ((k : Int) < (e : Int)) = true := by simp; omega
    have hkn := endN_le (ns := ns) (i := k) (by rw [HNL.out]; omega)
    have HEK := hiD (HEND.out k (by omega))
    have hpl : ps.length ≤ 1000000 := by have h1 := HST.out.len; have h2 := HKS.out; rw [h2] at hks; simp at hks; omega
    have hchk : ∀ rest', KidsChain (FigAns w (layv most SA sn sc A len c rb)) ns e (endN ns k) rest' → endN ns k ≤ e := by
     intro rest' h
     cases rest' with
     | nil => exact Nat.le_of_eq h
     | cons _ _ => exact Nat.le_of_lt h.1
    have hle2 := hchk rest hC
    obtain ⟨k2, hk2⟩ : ∃ k2, k2 = endN ns k := ⟨_, rfl⟩
    rw [← hk2] at hkn HEK hle2 HC2
    have hne : some wA.heap.size ≠ u4.ownBlock := fun h => by have := (HST.out.own.lt _ h.symm).1; have := S1.out; omega
    have HNE := hiD hne
    clear hC hF hchk hk2 hne
    go_wp2_with (first
     | (go_at_call 106; refine (HF.out _ ((HGA.out.trans G1.out).trans (HGR.out.trans HGW.out))).mono ?_; rintro e' w2 ⟨hg2, p, rfl, hq⟩; have HG2 := hiD hg2; have HQ := hiD hq; have d0 := (HGW.out.trans hg2).cell c0; have d1 := (HGW.out.trans hg2).cell c1; have d2 := (HGW.out.trans hg2).cell c2; have d3 := (HGW.out.trans hg2).cell c3; have hb2 := lcc w2 _ d0; have hsz2 := (HGR.out.trans (HGW.out.trans hg2)).b.size; clear hg2 hq)
     | (at_builtin; refine wpList_figA rfl _ _ rfl W1.heap.size _ ps.length ps rfl ((HST.out.gr ((HGW.out.trans HG2.out).alloc _)).own) _ _ (figT f) p rfl (by go_simp) (by omega) (by simp; omega) ?_; intro v2 w3 HO3 HS3; have f0 := HS3.out.cell (n := wA.heap.size) (i := 0) (u := .int .i64 most) (by go_simp) HNE.out; have f1 := HS3.out.cell (n := wA.heap.size) (i := 1) (u := .slice SA sn sc) (by go_simp) HNE.out; have f2 := HS3.out.cell (n := wA.heap.size) (i := 2) (u := .slice A len c) (by go_simp) HNE.out; have f3 := HS3.out.cell (n := wA.heap.size) (i := 3) (u := .bool rb) (by go_simp) HNE.out; have hb3 := lcc w3 _ f0)
     | (go_at_call 150; ((with_reducible refine (HEI.out _ (G1.out.trans HGR.out)).mono ?_); rw [← HE.out]; rintro e' w' ⟨rfl, hgw⟩; have HGW := hiD hgw; have e0 := hgw.cell c0; have e1 := hgw.cell c1; have e2 := hgw.cell c2; have e3 := hgw.cell c3; have hbw := lcc w' _ e0; clear hgw HEI)))
    have hgf : Gr wr w3 ∨ True := .inr trivial
    clear hgf
    have hst2 : RowStep wr w3 u4 v2 := (RowStep.gr ((HGW.out.trans HG2.out).alloc _) u4).trans HS3.out
    have HST2 := hiD hst2
    have hgo : Gr wA w3 := G1.out.trans ((HRS.out.trans hst2).gr_of (Gr.refl _) (by simp [Value.ownBlock]))
    have HGO := hiD hgo
    clear hst2 hgo
    go_wp2_with (go_at_call 150; refine (HEK.out _ HGO.out).mono ?_; rintro e' w4 ⟨rfl, hgw4⟩; have HG4 := hiD hgw4; clear hgw4)
    go_roundw
    case rel =>
     refine ⟨k2, fs ++ [f], rest, ps ++ [.iface (figT f) p], rfl, by omega, hle2, by (show ks = _; rw [HKS.out]; simp), HC2.out, ?_, HRS.out.trans (HST2.out.trans (RowStep.gr HG4.out v2))⟩
     have h0 := (HST.out.gr ((HGW.out.trans HG2.out).alloc (.cells #[.iface (figT f) p] 165)))
     have q1 := HGR.out.b.size
     have q2 := HGW.out.b.size
     have hq' : FigQ (w2.alloc (.cells #[.iface (figT f) p] 165)) (fun b => W1.heap.size ≤ b ∧ b < (w2.alloc (.cells #[.iface (figT f) p] 165)).heap.size ∧ some b ≠ u4.ownBlock) f p := by
      refine FigQ.mono (fun b hb => ⟨⟨by omega, by simp; omega, fun h => ?_⟩, heap_past w2 b _ hb.2⟩) f p HQ.out
      have h2 := (HST.out.own.lt _ h.symm).2
      omega
     exact (KidsSt.app (w0 := wA) h0 HS3.out HO3.out hq').gr HG4.out
    case measure => simp [intOf]; omega
end Go.Proofs.OGW
