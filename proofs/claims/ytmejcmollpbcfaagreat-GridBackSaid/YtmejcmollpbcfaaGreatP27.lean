import Derived.Test.YtmejcmollpbcfaaGreatP26
set_option linter.all false
namespace Go.Proofs.OGW
open Go.RowKit Go.Sort OG Go.Shelf Go.PlainAid
attribute [local go_sem] sA fv sB sG sC Nat.zero_add run_cmSize run_cmPut
attribute [local go_sem ↓] ld66 ld51 st66 st51 execOp_inv0 execOp_inv3
theorem OwnX.low_rows {w : World} {B B' : Nat} {v : Value} {ps : List PB} (h : OwnX w B v ps) (hB : B' ≤ B) : OwnX w B' v ps :=
 ⟨h.1, h.2.imp id fun ⟨g, cap, cur, e, hb, rest⟩ => ⟨g, cap, cur, e, Nat.le_trans hB hb, rest⟩⟩
set_option maxRecDepth 100000 in
set_option maxHeartbeats 16000000 in
theorem boxes_rows (most : Int) (SA : Option Addr) (sn sc : Nat) (A : Option Addr) (len c : Nat) (l : List Sg) (ns : List Nd) (w : World) (hE : LayEnv w most SA sn sc A len c l ns) (gis : List GI)
 (hch : GChain w (layv most SA sn sc A len c true) ns 0 gis) (way L : Int) (hw0 : 0 ≤ way) (hw1 : way ≤ 1000) (hL0 : 0 ≤ L) (hL : L ≤ 4800) (hgl : gis.length ≤ 300)
 (hV : ∀ p ∈ (standsP L true gis 0 0).zip gis, ∀ q ∈ spots p.2.F 0 0, (∃ n, ns[q.node.toNat]? = some n) ∧ 0 ≤ q.node ∧
   vld (spotBox ns p.1.s (if true then (p.1.pos : Rat) else crossP p.1.line (p.2.across true)) (if true then crossP p.1.line (p.2.across true) else (p.1.pos : Rat)) q).x = true ∧ vld (spotBox ns p.1.s (if true then (p.1.pos : Rat) else crossP p.1.line (p.2.across true)) (if true then crossP p.1.line (p.2.across true) else (p.1.pos : Rat)) q).w = true)
 (hcount : (boxesP true way L ns gis).length ≤ 1000000) :
 ∀ w1, Gr w w1 → Calls Tryz.prog 48 #[layv most SA sn sc A len c true, pgv way L] w1 fun e w' => ∃ v', e = .returned v' ∧ OwnX w' w1.heap.size v' (boxesP true way L ns gis) ∧ Gr w1 w' := by
 intro wA hgA
 have hE' := hE.gr hgA
 have hlen := hE.nb
 have HNL := hiD hE.nl
 have HE' := hiD hE'
 have hmem := GChain.mem hch
 have hlb : ∀ g ∈ gis, 0 ≤ (g.long true).num ∧ (g.long true).num ≤ 57600000 := fun g hg => by
  have ho := hmem g hg
  have hb := FigB.wh g.F ho.bd
  rw [ho.w, ho.h] at hb
  have := long_bd true g ho.w0 ho.h0 (by omega) (by omega)
  exact ⟨this.1, this.2.1⟩
 obtain ⟨hsl, hsg⟩ := standsP_get L true gis 0 0 (by omega) (by omega) (by omega) hlb hL0 hL
 have HG := hiD (fun w1 (h1 : Gr wA w1) => groups_call most SA sn sc A len c true l ns w hE gis hch L hL0 hL (by omega) w1 (hgA.trans h1))
 have HMEM := hiD hmem
 have HSG := hiD hsg
 have HSL := hiD hsl
 have HV := hiD hV
 have HCNT := hiD hcount
 have HGA := hiD hgA
 obtain ⟨n, hn⟩ : ∃ n, n = gis.length := ⟨_, rfl⟩
 have HN := hiD hn
 rw [← hn] at hgl
 clear hE hE' hch hgA hmem hlb hsl hsg hV hcount hn
 go_enter Tryz.func48, Tryz.ntmps48
 go_upto_region 1 with fail
 have m0 : ((wA.alloc (.cells #[.int .i64 most, .slice SA sn sc, .slice A len c, .bool true] 95)).alloc (.cells #[.int .i64 way, .int .i64 L] 27)).cell? ⟨wA.heap.size, 0, none⟩ = some (.int .i64 most) := by go_simp
 have m1 : ((wA.alloc (.cells #[.int .i64 most, .slice SA sn sc, .slice A len c, .bool true] 95)).alloc (.cells #[.int .i64 way, .int .i64 L] 27)).cell? ⟨wA.heap.size, 1, none⟩ = some (.slice SA sn sc) := by go_simp
 have m2 : ((wA.alloc (.cells #[.int .i64 most, .slice SA sn sc, .slice A len c, .bool true] 95)).alloc (.cells #[.int .i64 way, .int .i64 L] 27)).cell? ⟨wA.heap.size, 2, none⟩ = some (.slice A len c) := by go_simp
 have m3 : ((wA.alloc (.cells #[.int .i64 most, .slice SA sn sc, .slice A len c, .bool true] 95)).alloc (.cells #[.int .i64 way, .int .i64 L] 27)).cell? ⟨wA.heap.size, 3, none⟩ = some (.bool true) := by go_simp
 have m4 : ((wA.alloc (.cells #[.int .i64 most, .slice SA sn sc, .slice A len c, .bool true] 95)).alloc (.cells #[.int .i64 way, .int .i64 L] 27)).cell? ⟨wA.heap.size + 1, 0, none⟩ = some (.int .i64 way) := by go_simp
 have m5 : ((wA.alloc (.cells #[.int .i64 most, .slice SA sn sc, .slice A len c, .bool true] 95)).alloc (.cells #[.int .i64 way, .int .i64 L] 27)).cell? ⟨wA.heap.size + 1, 1, none⟩ = some (.int .i64 L) := by go_simp
 have g1 : Gr wA ((wA.alloc (.cells #[.int .i64 most, .slice SA sn sc, .slice A len c, .bool true] 95)).alloc (.cells #[.int .i64 way, .int .i64 L] 27)) := ((Gr.refl wA).alloc _).alloc _
 have s1 : ((wA.alloc (.cells #[.int .i64 most, .slice SA sn sc, .slice A len c, .bool true] 95)).alloc (.cells #[.int .i64 way, .int .i64 L] 27)).heap.size = wA.heap.size + 2 := by simp
 generalize (wA.alloc (.cells #[.int .i64 most, .slice SA sn sc, .slice A len c, .bool true] 95)).alloc (.cells #[.int .i64 way, .int .i64 L] 27) = W1 at m0 m1 m2 m3 m4 m5 g1 s1 ⊢
 have S1 := hiD s1
 have M0 := hiD m0
 have M1 := hiD m1
 have M2 := hiD m2
 have M3 := hiD m3
 have M4 := hiD m4
 have M5 := hiD m5
 have G1 := hiD g1
 have q0 := lcc W1 _ m0
 have q4 := lcc W1 _ m4
 clear g1 s1
 go_wp2_with (go_at_call 104; refine (HG.out _ G1.out).mono ?_; rintro e w2 ⟨vG, rfl, hOG, hgw⟩; obtain ⟨GA, gc, rfl, hGR⟩ := OwnG.slice hOG; have hgl2 := HSL.out.trans HN.out.symm; rw [hgl2]; have HGVV := hiD hGR; have HG2 := hiD hgw; clear hgl2 hGR hgw hOG)
 go_loopw [21, 5] (fun i u wr => ∃ (k : Nat) (dn : List PB), i = .int .i64 k ∧ k ≤ n ∧ Hid (boxesP true way L ns gis = dn ++ (((standsP L true gis 0 0).zip gis).drop k).flatMap fun p => groupBoxes true way ns p.1 p.2) ∧ Hid (OwnX wr w2.heap.size u dn) ∧ Hid (RowStep w2 wr (.slice none 0 0) u)) (fun i _ _ => n - (intOf i).toNat)
 case atStart => exact ⟨0, [], rfl, Nat.zero_le _, rfl, World.ownsRow_nil _ _ _ _, RowStep.gr (Gr.refl _) _⟩
 case round =>
  obtain ⟨k, dn, rfl, hk, HST, HOW, HRS⟩ := hrel
  have hgr : Gr w2 wr := HRS.out.gr_of (Gr.refl _) (by simp [Value.ownBlock])
  have HGR := hiD hgr
  have hg12 : Gr W1 wr := HG2.out.trans hgr
  have HG12 := hiD hg12
  by_cases hkn : k < n
  ·have hd : decide ((k : Int) < (n : Int)) = true := by simp; omega
   obtain ⟨gi, hgi⟩ : ∃ gi, gis[k]? = some gi := ⟨_, gE (by rw [← HN.out]; exact hkn)⟩
   obtain ⟨gp, hgp⟩ : ∃ gp, (standsP L true gis 0 0)[k]? = some gp := ⟨_, gE (by rw [HSL.out, ← HN.out]; exact hkn)⟩
   have hok := HMEM.out gi (List.mem_of_getElem? hgi)
   obtain ⟨e1, e2, l0, l1, p0, p1⟩ := HSG.out k gp gi hgp hgi
   obtain ⟨gnode, gs, gline, gpos⟩ := gp
   simp only at e1 e2 l0 l1 p0 p1
   subst e1 e2
   obtain ⟨gblk, rfl, hgb, hgc⟩ := HGVV.out k _ hgp
   have hgcw : ∀ j u, (gcells ⟨gi.node, gi.sc true, gline, gpos⟩)[j]? = some u → wr.cell? ⟨gblk, k * 5 + j, none⟩ = some u := fun j u hu => HGR.out.cell (hgc j u hu)
   have gc0 := hgcw 0 _ rfl
   have gc1 := hgcw 1 _ rfl
   have gc2 := hgcw 2 _ rfl
   have gc3 := hgcw 3 _ rfl
   have gc4 := hgcw 4 _ rfl
   rw [Nat.add_zero] at gc0
   have hgbs := lcc wr _ gc0
   have a0 := hg12.cell M0.out
   have a1 := hg12.cell M1.out
   have a2 := hg12.cell M2.out
   have a3 := hg12.cell M3.out
   have a4 := hg12.cell M4.out
   have a5 := hg12.cell M5.out
   have hb0 := lcc wr _ a0
   have hb4 := lcc wr _ a4
   have hbw := FigB.wh gi.F hok.bd
   rw [hok.w, hok.h] at hbw
   have hsb := sc_bd true gi hok.w0 hok.h0 (by omega) (by omega)
   have hcrb : 0 ≤ (gi.across true).num ∧ (gi.across true).num ≤ 57600000 ∧ (gi.across true).den ≤ 1200000 := by
    have hnn : (((if true then gi.H else gi.W : Nat) : Int)) ≤ 1200000 := by simp; omega
    have h1 := mul_bd (gi.sc true) ((if true then gi.H else gi.W : Nat) : Int) hsb.1 (by omega)
    have h2 : (gi.sc true).num * ((if true then gi.H else gi.W : Nat) : Int) ≤ 48 * 1200000 := Int.le_trans (Int.mul_le_mul_of_nonneg_right hsb.2.1 (by omega)) (Int.mul_le_mul_of_nonneg_left hnn (by decide))
    unfold GI.across
    omega
   have HAL := hiD (along_any most SA sn sc A len c true ns w gi hok gline gpos)
   have HFG := hiD hok.fig
   have HPT := hiD (put_fig gi.F hok.bd)
   have HSI := hiD (spots_in gi.F 0 0 hok.bd)
   have HW := hiD hok.w
   have HH := hiD hok.h
   obtain ⟨ac, hac⟩ : ∃ ac, ac = gi.across true := ⟨_, rfl⟩
   have HAC := hiD hac
   rw [← hac] at hcrb HAL
   obtain ⟨c85, c39, c82, y1, y2, y3⟩ := cross_bd gline ac l0 (by omega) hcrb.1 hcrb.2.1 hcrb.2.2
   have C85 := hiD c85
   have C39 := hiD c39
   have C82 := hiD c82
   have HZ := hiD (HV.out (⟨gi.node, gi.sc true, gline, gpos⟩, gi) (List.mem_of_getElem? (i := k) (by rw [List.getElem?_zip_eq_some]; exact ⟨hgp, hgi⟩)))
   have hdrop : ((standsP L true gis 0 0).zip gis).drop k = (⟨gi.node, gi.sc true, gline, gpos⟩, gi) :: ((standsP L true gis 0 0).zip gis).drop (k + 1) := by
    have h1 : ((standsP L true gis 0 0).zip gis)[k]? = some (⟨gi.node, gi.sc true, gline, gpos⟩, gi) := by rw [List.getElem?_zip_eq_some]; exact ⟨hgp, hgi⟩
    have hlt := (gO h1).1
    rw [List.drop_eq_getElem_cons hlt, (gO h1).2]
   have HDR := hiD hdrop
   obtain ⟨sc0, hsc⟩ : ∃ sc0, sc0 = gi.sc true := ⟨_, rfl⟩
   rw [← hsc] at gc1 gc2 hsb HAL HZ HDR
   have HLG := hiD (fun w1 (h1 : Gr wr w1) => HAL.out w1 (HGA.out.trans (G1.out.trans (HG12.out.trans h1))))
   obtain ⟨lg, hlg⟩ : ∃ lg, lg = gi.long true := ⟨_, rfl⟩
   rw [← hlg] at HLG
   clear hac hsc hdrop hgp hgi hok hgcw hgc hgr hg12 hlg HAL c85 c39 c82
   go_upto_region 6 with (go_at_call 105; refine (HLG.out _ ((Gr.refl wr).alloc _)).mono ?_; rintro e w3 ⟨rfl, hg3⟩; have HG3 := hiD hg3; have b0 := hg3.cell (p := ⟨wr.heap.size, 0, none⟩) (v := .int .i64 gi.node) (by go_simp); have b1 := hg3.cell (p := ⟨wr.heap.size, 1, none⟩) (v := .int .i64 sc0.num) (by go_simp); have b2 := hg3.cell (p := ⟨wr.heap.size, 2, none⟩) (v := .int .i64 (sc0.den : Int)) (by go_simp); have b3 := hg3.cell (p := ⟨wr.heap.size, 3, none⟩) (v := .int .i64 gline) (by go_simp); have b4 := hg3.cell (p := ⟨wr.heap.size, 4, none⟩) (v := .int .i64 gpos) (by go_simp); have hb7 := lcc w3 _ b0; clear hg3)
   obtain ⟨xg, hxg⟩ : ∃ xg : Rat, xg = (gpos : Rat) := ⟨_, rfl⟩
   obtain ⟨xl, hxl⟩ : ∃ xl : Rat, xl = ((72 * gline : Int) : Rat) := ⟨_, rfl⟩
   obtain ⟨xf, hxf⟩ : ∃ xf : Rat, xf = 48 := ⟨_, rfl⟩
   obtain ⟨xd, hxd⟩ : ∃ xd : Rat, xd = 48 - ac := ⟨_, rfl⟩
   obtain ⟨xt, hxt⟩ : ∃ xt : Rat, xt = (48 - ac) * ((1 : Int) : Rat) / ((2 : Nat) : Rat) := ⟨_, rfl⟩
   obtain ⟨xy, hxy⟩ : ∃ xy : Rat, xy = crossP gline ac := ⟨_, rfl⟩
   have c85 := C85.out
   have c39 := C39.out
   have c82 := C82.out
   rw [← hxt] at c39 c82
   rw [← hxd, ← hxf] at c85
   rw [← hxd] at c39
   rw [← hxl, ← hxy] at c82
   have w1c := whole_call gpos
   have w2c := whole_call (72 * gline)
   have w3c := whole_call 48
   rw [← hxg] at w1c
   rw [← hxl] at w2c
   rw [show ((48 : Int) : Rat) = 48 from rfl, ← hxf] at w3c
   rw [← hxy] at y1 y2 y3
   have D85 := hiD c85
   have D39 := hiD c39
   have D82 := hiD c82
   have xgb : -100000000000 ≤ xg.num ∧ xg.num ≤ 100000000000 ∧ xg.den ≤ 2400000 := by rw [hxg, Rat.num_intCast, Rat.den_intCast]; omega
   have HXG := hiD hxg
   have HXY := hiD hxy
   have HW1 := hiD w1c
   have HW2 := hiD w2c
   have HW3 := hiD w3c
   clear c85 c39 c82 w1c w2c w3c hxg hxl hxf hxd hxt hxy C85 C39 C82
   have z1 : IntKind.i64.wrap (72 * gline) = 72 * gline := IntWalk.i64_in _ ⟨by omega, by omega⟩
   have B0 := hiD (show ((w3.alloc (.cells #[.int .i64 lg.num, .int .i64 (lg.den : Int)] 64)).alloc (.cells #[.int .i64 ac.num, .int .i64 (ac.den : Int)] 64)).cell? ⟨wr.heap.size, 0, none⟩ = some (.int .i64 gi.node) by go_simp)
   have B1 := hiD (show ((w3.alloc (.cells #[.int .i64 lg.num, .int .i64 (lg.den : Int)] 64)).alloc (.cells #[.int .i64 ac.num, .int .i64 (ac.den : Int)] 64)).cell? ⟨wr.heap.size, 1, none⟩ = some (.int .i64 sc0.num) by go_simp)
   have B2 := hiD (show ((w3.alloc (.cells #[.int .i64 lg.num, .int .i64 (lg.den : Int)] 64)).alloc (.cells #[.int .i64 ac.num, .int .i64 (ac.den : Int)] 64)).cell? ⟨wr.heap.size, 2, none⟩ = some (.int .i64 (sc0.den : Int)) by go_simp)
   have B3 := hiD (show ((w3.alloc (.cells #[.int .i64 lg.num, .int .i64 (lg.den : Int)] 64)).alloc (.cells #[.int .i64 ac.num, .int .i64 (ac.den : Int)] 64)).cell? ⟨wr.heap.size, 3, none⟩ = some (.int .i64 gline) by go_simp)
   have B4 := hiD (show ((w3.alloc (.cells #[.int .i64 lg.num, .int .i64 (lg.den : Int)] 64)).alloc (.cells #[.int .i64 ac.num, .int .i64 (ac.den : Int)] 64)).cell? ⟨wr.heap.size, 4, none⟩ = some (.int .i64 gpos) by go_simp)
   have B90 := hiD (show ((w3.alloc (.cells #[.int .i64 lg.num, .int .i64 (lg.den : Int)] 64)).alloc (.cells #[.int .i64 ac.num, .int .i64 (ac.den : Int)] 64)).cell? ⟨w3.heap.size + 1, 0, none⟩ = some (.int .i64 ac.num) by go_simp)
   have B91 := hiD (show ((w3.alloc (.cells #[.int .i64 lg.num, .int .i64 (lg.den : Int)] 64)).alloc (.cells #[.int .i64 ac.num, .int .i64 (ac.den : Int)] 64)).cell? ⟨w3.heap.size + 1, 1, none⟩ = some (.int .i64 (ac.den : Int)) by go_simp)
   have G6 := hiD (show Gr wr ((w3.alloc (.cells #[.int .i64 lg.num, .int .i64 (lg.den : Int)] 64)).alloc (.cells #[.int .i64 ac.num, .int .i64 (ac.den : Int)] 64)) from ((((Gr.refl wr).alloc _).trans HG3.out).alloc _).alloc _)
   generalize (w3.alloc (.cells #[.int .i64 lg.num, .int .i64 (lg.den : Int)] 64)).alloc (.cells #[.int .i64 ac.num, .int .i64 (ac.den : Int)] 64) = W6 at B0 B1 B2 B3 B4 B90 B91 G6 ⊢
   clear b0 b1 b2 b3 b4 a0 a1 a2 a3 a4 a5 gc0 gc1 gc2 gc3 gc4
   refine region_relT 14 (relS [isV (.pointer (some ⟨wr.heap.size, 4, none⟩)), isV (.int .i64 gpos), isV (fv xg), isV (.pointer (some ⟨wr.heap.size, 3, none⟩)), isV (.int .i64 gline), isV (.int .i64 (72 * gline)), isV (fv xl), isV (fv xf), isV (fv ac), isV (fv xd), isV (fv xt), isV (fv xy), (fun (v : Value) (wx : World) => ∃ b : Nat, v = .pointer (some ⟨b, 0, none⟩) ∧ W6.heap.size ≤ b ∧ wx.heap[b]? = some (.cells #[.int .i64 0, .int .i64 0] 64 (0, 0))), (fun (v : Value) (wx : World) => ∃ b : Nat, v = .pointer (some ⟨b, 0, none⟩) ∧ W6.heap.size ≤ b ∧ wx.heap[b]? = some (.cells #[.int .i64 0, .int .i64 0] 64 (0, 0)))]) (fun (i : Nat) (w : World) (v : Value) => match i with | 12 => (fun (wx : World) (v : Value) => ∃ b : Nat, v = .pointer (some ⟨b, 0, none⟩) ∧ wx.heap.size ≤ b) w v | 13 => (fun (wx : World) (v : Value) => ∃ b : Nat, v = .pointer (some ⟨b, 0, none⟩) ∧ wx.heap.size ≤ b) w v | _ => True) mixed (by kernel_rfl) (by rfl) (relS_mono ⟨isV_mono _, isV_mono _, isV_mono _, isV_mono _, isV_mono _, isV_mono _, isV_mono _, isV_mono _, isV_mono _, isV_mono _, isV_mono _, isV_mono _, fun v w w' hg ⟨b, e, h1, h2⟩ => ⟨b, e, h1, (hg.b.block b (Array.getElem?_eq_some_iff.1 h2).1).trans h2⟩, fun v w w' hg ⟨b, e, h1, h2⟩ => ⟨b, e, h1, (hg.b.block b (Array.getElem?_eq_some_iff.1 h2).1).trans h2⟩, trivial⟩) ?_
   simp only [List.take_succ_cons, List.take_zero, List.drop_succ_cons, List.drop_zero]
   refine ⟨fun w1 hg hdep K hK => ?_, fun v0 => ?_⟩
   ·clear hdep
    go_simp
    exact hK.out (.pointer (some ⟨wr.heap.size, 4, none⟩)) _ (Gr.refl _) rfl trivial
   simp only [put_lit, List.setIfInBounds_toArray, List.set_cons_succ, List.set_cons_zero]
   refine ⟨fun w1 hg hdep K hK => ?_, fun v1 => ?_⟩
   ·have h0 : v0 = .pointer (some ⟨wr.heap.size, 4, none⟩) := hdep 0 (by kernel_rfl)
    subst h0
    clear hdep
    have c := hg.cell B4.out
    go_simp
    exact hK.out (.int .i64 gpos) _ (Gr.refl _) rfl trivial
   simp only [put_lit, List.setIfInBounds_toArray, List.set_cons_succ, List.set_cons_zero]
   refine ⟨fun w1 hg hdep K hK => ?_, fun v2 => ?_⟩
   ·have h1 : v1 = .int .i64 gpos := hdep 1 (by kernel_rfl)
    subst h1
    clear hdep
    go_simp
    refine (HW1.out w1).mono ?_
    rintro e w' ⟨rfl, hg'⟩
    exact hK.out (fv xg) w' hg' rfl trivial
   simp only [put_lit, List.setIfInBounds_toArray, List.set_cons_succ, List.set_cons_zero]
   refine ⟨fun w1 hg hdep K hK => ?_, fun v3 => ?_⟩
   ·clear hdep
    go_simp
    exact hK.out (.pointer (some ⟨wr.heap.size, 3, none⟩)) _ (Gr.refl _) rfl trivial
   simp only [put_lit, List.setIfInBounds_toArray, List.set_cons_succ, List.set_cons_zero]
   refine ⟨fun w1 hg hdep K hK => ?_, fun v4 => ?_⟩
   ·have h3 : v3 = .pointer (some ⟨wr.heap.size, 3, none⟩) := hdep 3 (by kernel_rfl)
    subst h3
    clear hdep
    have c := hg.cell B3.out
    go_simp
    exact hK.out (.int .i64 gline) _ (Gr.refl _) rfl trivial
   simp only [put_lit, List.setIfInBounds_toArray, List.set_cons_succ, List.set_cons_zero]
   refine ⟨fun w1 hg hdep K hK => ?_, fun v5 => ?_⟩
   ·have h4 : v4 = .int .i64 gline := hdep 4 (by kernel_rfl)
    subst h4
    clear hdep
    go_simp
    exact hK.out (.int .i64 (72 * gline)) _ (Gr.refl _) rfl trivial
   simp only [put_lit, List.setIfInBounds_toArray, List.set_cons_succ, List.set_cons_zero]
   refine ⟨fun w1 hg hdep K hK => ?_, fun v6 => ?_⟩
   ·have h5 : v5 = .int .i64 (72 * gline) := hdep 5 (by kernel_rfl)
    subst h5
    clear hdep
    go_simp
    refine (HW2.out w1).mono ?_
    rintro e w' ⟨rfl, hg'⟩
    exact hK.out (fv xl) w' hg' rfl trivial
   simp only [put_lit, List.setIfInBounds_toArray, List.set_cons_succ, List.set_cons_zero]
   refine ⟨fun w1 hg hdep K hK => ?_, fun v7 => ?_⟩
   ·clear hdep
    go_simp
    refine (HW3.out w1).mono ?_
    rintro e w' ⟨rfl, hg'⟩
    exact hK.out (fv xf) w' hg' rfl trivial
   simp only [put_lit, List.setIfInBounds_toArray, List.set_cons_succ, List.set_cons_zero]
   refine ⟨fun w1 hg hdep K hK => ?_, fun v8 => ?_⟩
   ·clear hdep
    have c0 := hg.cell B90.out
    have c1 := hg.cell B91.out
    go_simp
    exact hK.out (fv ac) _ (Gr.refl _) rfl trivial
   simp only [put_lit, List.setIfInBounds_toArray, List.set_cons_succ, List.set_cons_zero]
   refine ⟨fun w1 hg hdep K hK => ?_, fun v9 => ?_⟩
   ·have h7 : v7 = fv xf := hdep 7 (by kernel_rfl)
    subst h7
    exact tZ85
   simp only [put_lit, List.setIfInBounds_toArray, List.set_cons_succ, List.set_cons_zero]
   refine ⟨fun w1 hg hdep K hK => ?_, fun v10 => ?_⟩
   ·have h9 : v9 = fv xd := hdep 9 (by kernel_rfl)
    subst h9
    clear hdep
    go_simp
    refine (D39.out w1).mono ?_
    rintro e w' ⟨rfl, hg'⟩
    exact hK.out (fv xt) w' hg' rfl trivial
   simp only [put_lit, List.setIfInBounds_toArray, List.set_cons_succ, List.set_cons_zero]
   refine ⟨fun w1 hg hdep K hK => ?_, fun v11 => ?_⟩
   ·have h6 : v6 = fv xl := hdep 6 (by kernel_rfl)
    subst h6
    exact tZ83
   simp only [put_lit, List.setIfInBounds_toArray, List.set_cons_succ, List.set_cons_zero]
   refine ⟨fun w1 hg hdep K hK => ?_, fun v12 => ?_⟩
   ·clear hdep
    go_simp
    exact tZ24
   simp only [put_lit, List.setIfInBounds_toArray, List.set_cons_succ, List.set_cons_zero]
   refine ⟨fun w1 hg hdep K hK => ?_, fun v13 => ?_⟩
   ·clear hdep
    go_simp
    exact tZ24
   simp only [put_lit, List.setIfInBounds_toArray, List.set_cons_succ, List.set_cons_zero]
   intro w1 hg hs hord
   have h0 : v0 = .pointer (some ⟨wr.heap.size, 4, none⟩) := hs 0 (by decide)
   subst h0
   have h1 : v1 = .int .i64 gpos := hs 1 (by decide)
   subst h1
   have h2 : v2 = fv xg := hs 2 (by decide)
   subst h2
   have h3 : v3 = .pointer (some ⟨wr.heap.size, 3, none⟩) := hs 3 (by decide)
   subst h3
   have h4 : v4 = .int .i64 gline := hs 4 (by decide)
   subst h4
   have h5 : v5 = .int .i64 (72 * gline) := hs 5 (by decide)
   subst h5
   have h6 : v6 = fv xl := hs 6 (by decide)
   subst h6
   have h7 : v7 = fv xf := hs 7 (by decide)
   subst h7
   have h8 : v8 = fv ac := hs 8 (by decide)
   subst h8
   have h9 : v9 = fv xd := hs 9 (by decide)
   subst h9
   have h10 : v10 = fv xt := hs 10 (by decide)
   subst h10
   have h11 : v11 = fv xy := hs 11 (by decide)
   subst h11
   have h12 := show (fun (v : Value) (wx : World) => ∃ b : Nat, v = .pointer (some ⟨b, 0, none⟩) ∧ W6.heap.size ≤ b ∧ wx.heap[b]? = some (.cells #[.int .i64 0, .int .i64 0] 64 (0, 0))) v12 w1 from hs 12 (by decide)
   have h13 := show (fun (v : Value) (wx : World) => ∃ b : Nat, v = .pointer (some ⟨b, 0, none⟩) ∧ W6.heap.size ≤ b ∧ wx.heap[b]? = some (.cells #[.int .i64 0, .int .i64 0] 64 (0, 0))) v13 w1 from hs 13 (by decide)
   clear hs
   obtain ⟨bx, ex, hx1, hx2⟩ := h12
   subst ex
   obtain ⟨by', ey, hy1, hy2⟩ := h13
   subst ey
   have hne : bx ≠ by' := by
    exact tZ9
   clear hord
   have HG61 := hiD hg
   have HX2 := hiD hx2
   have HY2 := hiD hy2
   have HNE := hiD hne
   have cx0 : w1.cell? ⟨bx, 0, none⟩ = some (.int .i64 0) := by rw [cell_of_row w1 bx 0 _ _ _ hx2]; rfl
   have cx1 : w1.cell? ⟨bx, 1, none⟩ = some (.int .i64 0) := by rw [cell_of_row w1 bx 1 _ _ _ hx2]; rfl
   have cy0 : w1.cell? ⟨by', 0, none⟩ = some (.int .i64 0) := by rw [cell_of_row w1 by' 0 _ _ _ hy2]; rfl
   have cy1 : w1.cell? ⟨by', 1, none⟩ = some (.int .i64 0) := by rw [cell_of_row w1 by' 1 _ _ _ hy2]; rfl
   have fx0 := frozen_of_row w1 bx 0 _ _ hx2
   have fx1 := frozen_of_row w1 bx 1 _ _ hx2
   have fy0 := frozen_of_row w1 by' 0 _ _ hy2
   have fy1 := frozen_of_row w1 by' 1 _ _ hy2
   clear hx2 hy2 hg
   go_upto_region 7 with fail
   have EX7 := hiD (show ((((w1.setCell ⟨bx, 0, none⟩ (.int .i64 xg.num)).setCell ⟨bx, 1, none⟩ (.int .i64 (xg.den : Int))).setCell ⟨by', 0, none⟩ (.int .i64 xy.num)).setCell ⟨by', 1, none⟩ (.int .i64 (xy.den : Int))).heap[bx]? = some (.cells #[.int .i64 xg.num, .int .i64 (xg.den : Int)] 64 (0, 0)) from
    (setCell_other _ by' 1 bx _ HNE.out).trans ((setCell_other _ by' 0 bx _ HNE.out).trans (set2 HX2.out)))
   have EY7 := hiD (show ((((w1.setCell ⟨bx, 0, none⟩ (.int .i64 xg.num)).setCell ⟨bx, 1, none⟩ (.int .i64 (xg.den : Int))).setCell ⟨by', 0, none⟩ (.int .i64 xy.num)).setCell ⟨by', 1, none⟩ (.int .i64 (xy.den : Int))).heap[by']? = some (.cells #[.int .i64 xy.num, .int .i64 (xy.den : Int)] 64 (0, 0)) from
    set2 ((setCell_other _ bx 1 by' _ (Ne.symm HNE.out)).trans ((setCell_other _ bx 0 by' _ (Ne.symm HNE.out)).trans HY2.out)))
   have G7 := hiD (show Gr W6 ((((w1.setCell ⟨bx, 0, none⟩ (.int .i64 xg.num)).setCell ⟨bx, 1, none⟩ (.int .i64 (xg.den : Int))).setCell ⟨by', 0, none⟩ (.int .i64 xy.num)).setCell ⟨by', 1, none⟩ (.int .i64 (xy.den : Int))) from
    ((((HG61.out.setCell (p := ⟨bx, 0, none⟩) hx1 _).setCell (p := ⟨bx, 1, none⟩) hx1 _).setCell (p := ⟨by', 0, none⟩) hy1 _).setCell (p := ⟨by', 1, none⟩) hy1 _))
   generalize (((w1.setCell ⟨bx, 0, none⟩ (.int .i64 xg.num)).setCell ⟨bx, 1, none⟩ (.int .i64 (xg.den : Int))).setCell ⟨by', 0, none⟩ (.int .i64 xy.num)).setCell ⟨by', 1, none⟩ (.int .i64 (xy.den : Int)) = w7 at EX7 EY7 G7 ⊢
   clear cx0 cx1 cy0 cy1 fx0 fx1 fy0 fy1 HX2 HY2 HG61
   have hx1' := G6.out.b.size
   obtain ⟨wo, rfl⟩ : ∃ wo, wo = wr := ⟨wr, rfl⟩
   obtain ⟨uo, rfl⟩ : ∃ uo, uo = u5 := ⟨u5, rfl⟩
   have g17 := HG12.out.trans (G6.out.trans G7.out)
   have a0 := g17.cell M0.out
   have a1 := g17.cell M1.out
   have a2 := g17.cell M2.out
   have a3 := g17.cell M3.out
   have r0 := G7.out.cell B0.out
   have hq0 := lcc w7 _ a0
   have hq7 := lcc w7 _ r0
   have G17 := hiD g17
   have hspl : (spots gi.F 0 0).length ≤ 1000000 := by
    exact tZ88
   have HFG2 := hiD (fun wq (h1 : Gr W1 wq) => HFG.out wq (HGA.out.trans (G1.out.trans h1)))
   have hput : ∀ w8 p, FigP w8 gi.F p → Calls Tryz.prog (putF gi.F) #[p, .slice none 0 0, .int .i64 0, .int .i64 0] w8 (PutPost w8 w8 (.slice none 0 0) (spots gi.F 0 0)) := fun w8 p hp => by
    exact tZ62
   have HPUT := hiD hput
   clear hput g17
   go_wp2_with (first
    | (go_at_call 106; refine (HFG2.out _ G17.out).mono ?_; rintro e w8 ⟨hg8, p, rfl, hq⟩; have HP := hiD (FigQ.toP _ _ hq); have HG8 := hiD hg8; clear hg8 hq)
    | ((with_reducible refine (HPUT.out _ p HP.out).mono ?_); rintro e w9 ⟨v9, rfl, hOS, hst9⟩; obtain ⟨SA9, sc9, rfl, hSR⟩ := OwnS.slice hOS; have HSR := hiD hSR; have HG9 := hiD (show Gr w8 w9 from hst9.gr_of (Gr.refl _) (by simp [Value.ownBlock])); clear hSR hst9 hOS))
   obtain ⟨m, hm⟩ : ∃ m, m = (spots gi.F 0 0).length := ⟨_, rfl⟩
   rw [← hm] at hspl ⊢
   have HM := hiD hm
   clear hm
   have uo1 : ∀ b, b < w2.heap.size ∨ wo.heap.size ≤ b → some b ≠ uo.ownBlock := fun b hb h => by
    have h1 := HOW.out.lt b h.symm
    omega
   have U1 := hiD uo1
   have hown9 : OwnX w9 w2.heap.size uo dn := HOW.out.gr (G6.out.trans (G7.out.trans (HG8.out.trans HG9.out)))
   have HO9 := hiD hown9
   have G79 := hiD (HG8.out.trans HG9.out)
   have s12 := HG2.out.b.size
   have s2o := HGR.out.b.size
   have s7 := (G6.out.trans G7.out).b.size
   have s8 := HG8.out.b.size
   have s1A := S1.out
   have s2A := HG12.out.b.size
   clear uo1 hown9 a0 r0
   go_loopw [54, 5] (fun i u wr => ∃ j : Nat, i = .int .i64 j ∧ j ≤ m ∧ Hid (OwnX wr w2.heap.size u (dn ++ (groupBoxes true way ns ⟨gi.node, sc0, gline, gpos⟩ gi).take j)) ∧ Hid (RowStep w9 wr uo u)) (fun i _ _ => m - (intOf i).toNat)
   case atStart => exact ⟨0, rfl, Nat.zero_le _, by (show OwnX w9 _ uo (dn ++ _); rw [List.take_zero, List.append_nil]; exact HO9.out), RowStep.gr (Gr.refl _) uo⟩
   case round =>
    obtain ⟨j, rfl, hj, HOJ, HRJ⟩ := hrel
    by_cases hjm : j < m
    ·have hdj : decide ((j : Int) < (m : Int)) = true := by simp; omega
     obtain ⟨q, hq⟩ : ∃ q, (spots gi.F 0 0)[j]? = some q := ⟨_, gE (by rw [← HM.out]; exact hjm)⟩
     have hqm := List.mem_of_getElem? hq
     obtain ⟨⟨nd, hnd⟩, hq0, vx, vw⟩ := HZ.out q hqm
     have hin := HSI.out q hqm
     obtain ⟨sblk, rfl, hsb8, hsc9⟩ := HSR.out j q hq
     have cel : ∀ b i u, (b < w2.heap.size ∨ wo.heap.size ≤ b) → w9.cell? ⟨b, i, none⟩ = some u → wr.cell? ⟨b, i, none⟩ = some u := fun b i u hb hc => HRJ.out.cell hc (U1.out b hb)
     have qc0 := cel sblk _ _ (.inr (by omega)) (hsc9 0 _ rfl)
     have qc1 := cel sblk _ _ (.inr (by omega)) (hsc9 1 _ rfl)
     have qc2 := cel sblk _ _ (.inr (by omega)) (hsc9 2 _ rfl)
     have qc3 := cel sblk _ _ (.inr (by omega)) (hsc9 3 _ rfl)
     have qc4 := cel sblk _ _ (.inr (by omega)) (hsc9 4 _ rfl)
     rw [Nat.add_zero] at qc0
     have hsbs := lcc wr _ qc0
     have p2 := cel wA.heap.size 2 _ (.inl (by omega)) (G79.out.cell (G17.out.cell M2.out))
     have p4 := cel (wA.heap.size + 1) 0 _ (.inl (by omega)) (G79.out.cell (G17.out.cell M4.out))
     have p5 := cel (wA.heap.size + 1) 1 _ (.inl (by omega)) (G79.out.cell (G17.out.cell M5.out))
     have hpa := lcc wr _ p2
     have hpb := lcc wr _ p4
     have t1 := cel wo.heap.size 1 _ (.inr (Nat.le_refl _)) (G79.out.cell (G7.out.cell B1.out))
     have t2 := cel wo.heap.size 2 _ (.inr (Nat.le_refl _)) (G79.out.cell (G7.out.cell B2.out))
     have hpt := lcc wr _ t1
     have x0 := cel bx 0 (.int .i64 xg.num) (.inr (by omega)) (G79.out.cell (by rw [cell_of_row w7 bx 0 _ _ _ EX7.out]; rfl))
     have x1 := cel bx 1 (.int .i64 (xg.den : Int)) (.inr (by omega)) (G79.out.cell (by rw [cell_of_row w7 bx 1 _ _ _ EX7.out]; rfl))
     have x2 := cel by' 0 (.int .i64 xy.num) (.inr (by omega)) (G79.out.cell (by rw [cell_of_row w7 by' 0 _ _ _ EY7.out]; rfl))
     have x3 := cel by' 1 (.int .i64 (xy.den : Int)) (.inr (by omega)) (G79.out.cell (by rw [cell_of_row w7 by' 1 _ _ _ EY7.out]; rfl))
     have hpx := lcc wr _ x0
     have hpy := lcc wr _ x2
     obtain ⟨nblk, noff, rfl, hnat⟩ := HE'.out.nd.2 _ nd hnd
     have hnb : nblk < wA.heap.size := lcc wA _ hnat.c0
     have hnrow : rowV 8 wr nblk (noff + q.node.toNat * 8) = some (nv nd) := by
      exact tZ102
     have hnl := (gO hnd).1
     have hnll := HNL.out
     have hnbr : nblk < wr.heap.size := Nat.lt_of_lt_of_le hnb (by have := HRJ.out.by'.size; have := HG9.out.b.size; omega)
     unfold SpotIn at hin
     have hww := HW.out
     have hhh := HH.out
     obtain ⟨qn, qx, qy, qw, qh⟩ := q
     simp only at qc0 qc1 qc2 qc3 qc4 hin hq0 hnrow hnl
     obtain ⟨kn, rfl⟩ := Int.eq_ofNat_of_zero_le hq0
     simp only [Int.toNat_natCast] at hnrow hnl
     have tk : ((kn : Nat) : Int).toNat = kn := by omega
     have hkl : kn < len := by omega
     have hkl2 : (kn : Int) < (len : Int) := by omega
     have dx := t4_bd sc0 qx hsb.1 hsb.2.1 hsb.2.2 (by omega) (by omega)
     have dy := t4_bd sc0 qy hsb.1 hsb.2.1 hsb.2.2 (by omega) (by omega)
     have dw := t4_bd sc0 qw hsb.1 hsb.2.1 hsb.2.2 (by omega) (by omega)
     have dh := t4_bd sc0 qh hsb.1 hsb.2.1 hsb.2.2 (by omega) (by omega)
     have hpbx : spotBox ns sc0 (gpos : Rat) (crossP gline (gi.across true)) ⟨(kn : Int), qx, qy, qw, qh⟩ = ⟨nd.lf, (gpos : Rat) + sc0 * (qx : Rat) / ((4 : Nat) : Rat), (crossP gline (gi.across true)) + sc0 * (qy : Rat) / ((4 : Nat) : Rat), sc0 * (qw : Rat) / ((4 : Nat) : Rat), sc0 * (qh : Rat) / ((4 : Nat) : Rat)⟩ := by
      unfold spotBox
      simp only [Int.toNat_natCast] at hnd ⊢
      rw [hnd]
      rfl
     have hbx2 : spotBox ns sc0 (gpos : Rat) (crossP gline (gi.across true)) ⟨(kn : Int), qx, qy, qw, qh⟩ = ⟨nd.lf, xg + sc0 * (qx : Rat) / ((4 : Nat) : Rat), xy + sc0 * (qy : Rat) / ((4 : Nat) : Rat), sc0 * (qw : Rat) / ((4 : Nat) : Rat), sc0 * (qh : Rat) / ((4 : Nat) : Rat)⟩ := by
      rw [HXG.out, HXY.out, HAC.out]
      exact hpbx
     simp only [if_true, if_false, Bool.false_eq_true] at vx vw
     rw [hbx2] at vx vw
     simp only at vx vw
     have htk : (groupBoxes true way ns ⟨gi.node, sc0, gline, gpos⟩ gi).take (j + 1) = (groupBoxes true way ns ⟨gi.node, sc0, gline, gpos⟩ gi).take j ++ [turnedP ⟨nd.lf, xg + sc0 * (qx : Rat) / ((4 : Nat) : Rat), xy + sc0 * (qy : Rat) / ((4 : Nat) : Rat), sc0 * (qw : Rat) / ((4 : Nat) : Rat), sc0 * (qh : Rat) / ((4 : Nat) : Rat)⟩ way] := by
      have hjl : j < (groupBoxes true way ns ⟨gi.node, sc0, gline, gpos⟩ gi).length := by unfold groupBoxes; rw [List.length_map, ← HM.out]; exact hjm
      exact tZ77
     have hjn : (dn ++ (groupBoxes true way ns ⟨gi.node, sc0, gline, gpos⟩ gi).take j).length ≤ 1000000 := by
      exact tZ93
     have HTK := hiD htk
     have HJN := hiD hjn
     obtain ⟨tx, htx⟩ : ∃ t : Rat, t = sc0 * (qx : Rat) / ((4 : Nat) : Rat) := ⟨_, rfl⟩
     obtain ⟨ty, hty⟩ : ∃ t : Rat, t = sc0 * (qy : Rat) / ((4 : Nat) : Rat) := ⟨_, rfl⟩
     obtain ⟨tw, htw⟩ : ∃ t : Rat, t = sc0 * (qw : Rat) / ((4 : Nat) : Rat) := ⟨_, rfl⟩
     obtain ⟨th, hth⟩ : ∃ t : Rat, t = sc0 * (qh : Rat) / ((4 : Nat) : Rat) := ⟨_, rfl⟩
     rw [← htx, ← hty, ← htw, ← hth] at HTK
     rw [← htx] at dx vx
     rw [← hty] at dy
     rw [← htw] at dw vw
     rw [← hth] at dh
     have mX := prod_bd (x := xg.num) (y := tx.den) (N := 100000000000) (D := 4800000) (by omega) (by omega) dx.2.2.1
     have mX2 := prod_bd (x := tx.num) (y := xg.den) (N := 230400000) (D := 2400000) (by omega) dx.2.1 (by omega)
     have mX3 : xg.den * tx.den ≤ 2400000 * 4800000 := Nat.mul_le_mul (by omega) dx.2.2.1
     have mY := prod_bd (x := xy.num) (y := ty.den) (N := 100000000000) (D := 4800000) (by omega) (by omega) dy.2.2.1
     have mY2 := prod_bd (x := ty.num) (y := xy.den) (N := 230400000) (D := 2400000) (by omega) dy.2.1 (by omega)
     have mY3 : xy.den * ty.den ≤ 2400000 * 4800000 := Nat.mul_le_mul (by omega) dy.2.2.1
     have HDX := hiD dx.2.2.2
     have HDY := hiD dy.2.2.2
     have HDW := hiD dw.2.2.2
     have HDH := hiD dh.2.2.2
     have hax := add_call xg tx (by omega) (by omega) (by omega) (by omega) (by omega)
     have hay := add_call xy ty (by omega) (by omega) (by omega) (by omega) (by omega)
     obtain ⟨fx, hfx⟩ : ∃ t : Rat, t = xg + tx := ⟨_, rfl⟩
     obtain ⟨fy, hfy⟩ : ∃ t : Rat, t = xy + ty := ⟨_, rfl⟩
     rw [← hfx] at hax HTK vx
     rw [← hfy] at hay HTK
     have HAX := hiD hax
     have HAY := hiD hay
     have htr := turned_call ⟨nd.lf, fx, fy, tw, th⟩ way L vx vw hw0 hw1
     obtain ⟨pb, hpb2⟩ : ∃ pb, pb = turnedP ⟨nd.lf, fx, fy, tw, th⟩ way := ⟨_, rfl⟩
     rw [← hpb2] at htr HTK
     have HTR := hiD htr
     have HU1 := hiD (show some wr.heap.size ≠ u5.ownBlock from fun h => by have := (HOJ.out.lt _ h.symm).2; omega)
     clear hq hqm hnd hnat hpbx hbx2 htk hjn htx hty htw hth mX mX2 mX3 mY mY2 mY3 dx dy dw dh hax hay hfx hfy htr hpb2 vx vw cel hsc9 hin hww hhh hnll hq0
     go_wp2_with fail
     refine tail_grown 15 (by kernel_rfl) ?_
     simp only [List.take_succ_cons, List.take_zero, List.drop_succ_cons, List.drop_zero]
     repeat (go_big_quiet_step ((first | (go_at_call 39; (with_reducible exact HDX.out.quiet)) | (go_at_call 39; (with_reducible exact HDY.out.quiet)) | (go_at_call 82; (with_reducible exact HAX.out.quiet)) | (go_at_call 82; (with_reducible exact HAY.out.quiet)))))
     refine wpQuiet_nil ?_
     rintro w' ⟨⟨nq, osq⟩, rfl⟩
     go_wp2_with fail
     refine tail_grown 11 (by kernel_rfl) ?_
     simp only [List.take_succ_cons, List.take_zero, List.drop_succ_cons, List.drop_zero]
     repeat (go_big_quiet_step ((first | (go_at_call 39; (with_reducible exact HDW.out.quiet)) | (go_at_call 39; (with_reducible exact HDH.out.quiet)))))
     refine wpQuiet_nil ?_
     rintro w' ⟨⟨nq, osq⟩, rfl⟩
     go_wp2_with (first
      | (go_at_call 37; refine (HTR.out.at _).mono ?_; rintro e w' ⟨rfl, qt, ost, rfl⟩)
      | (at_builtin; refine wpList_boxA rfl _ _ rfl w2.heap.size _ (dn ++ (groupBoxes true way ns ⟨gi.node, sc0, gline, gpos⟩ gi).take j) rfl (HOJ.out.gr gw) _ _ pb rfl (fun jj u hu => (World.cell?_alloc_at _ _ _ _ (by go_simp)).trans (by simpa using hu)) (by have := HJN.out; omega) (Nat.le_trans (G6.out.trans (G7.out.trans (HG8.out.trans HG9.out))).b.size (Nat.le_trans HRJ.out.by'.size (Gr.b gw).size) |> Nat.le_trans (HGR.out.b.size)) ?_; intro v2 wz HOZ HSZ; have hstz : RowStep wr wz u5 v2 := (RowStep.gr gw u5).trans HSZ.out; have HSTZ := hiD hstz; clear hstz))
     exact tZ68
    ·obtain rfl : j = m := by omega
     have hdj : decide ((j : Int) < (j : Int)) = false := by simp
     have hall : (groupBoxes true way ns ⟨gi.node, sc0, gline, gpos⟩ gi).take j = groupBoxes true way ns ⟨gi.node, sc0, gline, gpos⟩ gi := List.take_of_length_le (by unfold groupBoxes; rw [List.length_map, ← HM.out]; exact Nat.le_refl _)
     have HALL := hiD hall
     clear hall
     go_wp2_with fail
     go_roundw
     case rel =>
      refine ⟨k + 1, dn ++ groupBoxes true way ns ⟨gi.node, sc0, gline, gpos⟩ gi, by go_num, by omega, ?_, ?_, ?_⟩
      ·show _ = _
       rw [HST.out, HDR.out, List.flatMap_cons, List.append_assoc]
      ·show OwnX _ _ _ _
       rw [← HALL.out]
       exact HOJ.out
      ·exact HRS.out.trans ((RowStep.gr (G6.out.trans (G7.out.trans (HG8.out.trans HG9.out))) uo).trans HRJ.out)
     case measure => simp [intOf]; omega
  ·obtain rfl : k = n := by omega
   have hd : decide ((k : Int) < (k : Int)) = false := by simp
   go_wp2_with fail
   go_ret
   have hdn : ((standsP L true gis 0 0).zip gis).drop k = [] := List.drop_eq_nil_of_le (by rw [List.length_zip, HSL.out, HN.out]; omega)
   have hst := HST.out
   rw [hdn, List.flatMap_nil, List.append_nil] at hst
   refine ⟨_, rfl, ?_, G1.out.trans HG12.out⟩
   rw [hst]
   exact HOW.out.low_rows (Nat.le_trans G1.out.b.size HG2.out.b.size)
end Go.Proofs.OGW
