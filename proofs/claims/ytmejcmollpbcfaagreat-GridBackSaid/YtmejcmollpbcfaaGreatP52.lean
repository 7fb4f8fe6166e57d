import Derived.Test.YtmejcmollpbcfaaGreatP34
import Derived.Test.YtmejcmollpbcfaaGreatP50
import Derived.Test.YtmejcmollpbcfaaGreatP51
set_option linter.all false
namespace Go.Proofs.OGW
open Go.RowKit Go.Sort OG Go.Shelf Go.PlainAid
attribute [local go_sem] sA fv sB sG sC Nat.zero_add
attribute [local go_sem ↓] ld66 ld51 st66 st51
structure BackOk (most : Int) (l : List Sg) (ns : List Nd) (gs : List Grp) : Prop where
 ck : checkP most l ns = 0
 pl : plainP 0 ns = flatG gs
 pr : plainR false ns = flatG gs
 tx : TxOk most l (LeafG l) gs
 cp : checkP most l (flatG gs) = 0
 ls : listE most l = 0
 nl : ns.length ≤ 200
theorem back_ok {most : Int} {l : List Sg} {ns : List Nd} (h : checkR most l ns = 0) : ∃ gs, BackOk most l ns gs := by
 obtain ⟨h0, h1, gs, rfl, hg⟩ := grps_R h
 obtain ⟨p1, p2⟩ := plain_ok hg
 exact ⟨gs.map Grp.plain, check_grps h0 h1 hg, plainP_grps gs 0 hg, plainR_grps gs false hg, txOk_of h0 (by omega) p1, check_grps h0 (by omega) (fun g h => (p1 g h).2), h0, h1⟩
theorem listE_vals {most : Int} {l : List Sg} (h : listE most l = 0) : ∀ s ∈ l, s.vals.length ≤ 1000 := by
 have key : ∀ (l : List Sg) (seen : List ByteArray), signsE most seen l = 0 → ∀ s ∈ l, s.vals.length ≤ 12 := by
  intro l
  induction l with
  | nil => intro _ _ s hs; cases hs
  | cons t r ih =>
    intro seen h s hs
    unfold signsE at h
    split at h
    ·cases h
    split at h
    ·cases h
    split at h
    ·cases h
    rename_i hv
    split at h
    ·rcases List.mem_cons.1 hs with rfl | hs
     ·omega
     ·exact ih _ h s hs
    ·rename_i hv; exact absurd h hv
 unfold listE at h
 split at h
 ·cases h
 split at h
 ·cases h
 intro s hs
 have := key l [] h s hs
 omega
theorem alloc_cell (W : World) (v : Value) : (W.alloc (.cells #[v] 33)).cell? ⟨W.heap.size, 0, none⟩ = some v := by
 have := cell_of_row (W.alloc (.cells #[v] 33)) W.heap.size 0 #[v] 33 (0, 0) (heap_alloc_new W _)
 simpa using this
theorem alloc_frz (W : World) (v : Value) : (W.alloc (.cells #[v] 33)).frozen? ⟨W.heap.size, 0, none⟩ = false := frozen_of_row (W.alloc (.cells #[v] 33)) W.heap.size 0 #[v] 33 (heap_alloc_new W _)
theorem same_yes (A B : Option Addr) (len c c2 : Nat) (ns : List Nd) (w : World) (hA : NdRow w A ns) (hB : NdRow w B ns) (hl : ns.length = len) (hlen : len ≤ 1000000) :
 Calls Tryz.prog 14 #[.agg #[.slice A len c], .agg #[.slice B len c2]] w fun e w' => e = .returned (.bool true) ∧ Gr w w' := by
 have := same_call A B len c len c2 ns ns w hA hB hl hl hlen hlen
 simpa using this
theorem held_bel {w5 w8 w' : World} {g : Nat} {xs : List PB} (h : Held w8 g xs w') (hb : Bel w5 w8) (hg : w5.heap.size ≤ g) : Bel w5 w' :=
 ⟨h.os.trans (Below.os hb), h.tape.trans (Below.tape hb), h.output.trans (Below.output hb), Nat.le_trans (Below.size hb) h.size, fun k hk => (h.keep k (Nat.lt_of_lt_of_le hk (Below.size hb)) (by omega)).trans (Below.block hb k hk)⟩
theorem tZ2 {P : Prop} (h : P := by
 repeat (refine planW_pure_step rfl rfl (fun K hK => ?_); go_simp; refine hK _ ?_; clear hK K)
 simp only [planW]
 have e0 := Bel.cell HB9.out HQC.out.1
 have e1 := Bel.cell HB9.out HQC.out.2.1
 have e2 := Bel.cell HB9.out HQC.out.2.2.1
 have n0 := lcc _ _ e0
 obtain ⟨m, hm⟩ : ∃ m, m = (flatG gs).length := ⟨_, rfl⟩
 have hm2 : m ≤ 200 := by rw [hm]; exact HBK.out.tx.len
 rw [← hm] at hc9 ⊢
 have HM := hiD hm
 clear hm
 have HPL9 := hiD (plain2_call most SA sn sc A len c l ns W9 ⟨HSC.out.below HB9.out, HSL.out, by omega, HNC.out.below HB9.out, HNL.out, by omega⟩)
 go_wp2_with fail
 refine HPL9.out.mono ?_
 rintro e w12 ⟨v12, rfl, hN12, hB12⟩
 rw [← HCE.out, if_pos rfl, HBK.out.pr] at hN12
 rw [← HCE.out]
 obtain ⟨A12, c12, rfl, hnd12, _⟩ := hN12.row (by have := HM.out; omega)
 rw [← HM.out]
 have hc12 := bel_cell hB12 hc9
 have n12 := lcc _ _ hc12
 have HN12 := hiD (show NdRow w12 A12 (flatG gs) from hnd12)
 have HN11 := hiD (show NdRow w12 A11 (flatG gs) from HN9.out.below hB12)
 have HB12 := hiD (HB9.out.trans hB12)
 clear hN12 hnd12 hB12 e0 e1 e2 n0 hc9 n9 HPL9 HB9 HN9
 go_wp2_with (first
  | (go_at_call 14; go_loud (refine (same_yes A11 A12 m c11 c12 (flatG gs) _ (HN11.out.gr gw) (HN12.out.gr gw) HM.out.symm (by omega)).mono ?_); rintro e w13 ⟨rfl, hg13⟩; have HG13 := hiD hg13; clear hg13)
  | (go_at_call 9; refine (works_call _).mono ?_; rintro e w14 ⟨rfl, hg14⟩; have HG14 := hiD hg14; clear hg14))
 go_ret
 exact ⟨rfl, HBW.out.trans (HB12.out.trans ((show Gr w12 _ from gw).bel.trans (HG13.out.bel.trans HG14.out)))⟩) : P := h
theorem tZ6 {P : Prop} (h : P := by
 have tj : ((j : Nat) : Int).toNat = j := by omega
 have tkk : ((kk : Nat) : Int).toNat = kk := by omega
 have zj : (j : Int) < (pl : Int) := by omega
 have zk : (kk : Int) < (pl : Int) := by omega
 have zj0 : (0 : Int) ≤ (j : Int) := by omega
 have zk0 : (0 : Int) ≤ (kk : Int) := by omega
 go_upto_region 13 with fail
 refine ord_grown [0, 1, 2, 3, 4, 5, 8, 9] [6, 7, 10, 11, 12] [13, 14, 15] (by kernel_rfl) (fun d _ _ _ _ h => by cases d <;> exact h) ?_
 simp only [List.filterMap_cons, List.filterMap_nil, List.getElem?_cons_succ, List.getElem?_cons_zero]
 repeat (refine wpPure_step (fun K hK => ?_); go_simp; refine hK _ ?_; clear hK K)
 refine wpPure_nil ?_
 repeat (quiet_step (fail))
 refine wpQuiet_nil ?_
 rintro w' ⟨⟨nq, osq⟩, rfl⟩
 have hHr2 := HH.out.gr (Gr.of_eq nq osq)
 generalize Sort.grow (wr.drewN nq) osq = w2 at hHr2 ⊢
 refine wpList_st66 rfl _ _ rfl kk y rfl rfl hHr2 (by rw [HXL.out]; exact hkp) ?_
 intro w3 h3
 refine wpList_pure rfl (.pointer (some ⟨g, j * 15, none⟩)) (fun w => by go_simp) ?_
 refine wpList_st66 rfl _ _ rfl j x rfl rfl h3 (by rw [List.length_set, HXL.out]; exact hjp) ?_
 intro w4 h4
 have HH4 := hiD h4
 clear h3 h4 hHr2
 go_wp2_with fail
 go_roundw
 case rel => exact ⟨k + 1, _, by go_num, by omega, HPE2.out, HH4.out.boxRow (by rw [List.length_set, List.length_set, HXL.out]; omega), held_bel HH4.out HG8.out HG57.out, fun _ => ⟨g, rfl, HGL.out, HH4.out⟩⟩
 case measure => simp [intOf]; omega) : P := h
theorem tZ11 {P : Prop} (h : P := by
 clear hnb hB11
 obtain ⟨A11, c11, rfl, hnd, _⟩ := hN.row (by have := HBK.out.tx.len; omega)
 have hb9 : Bel wc (w11.setCell ⟨nb, 0, none⟩ (.slice A11 (flatG gs).length c11)) := Below.setCell hBB (p := ⟨nb, 0, none⟩) hnge _
 have hN9 := hN.by (setCell_by w11 nb 0 (.slice A11 (flatG gs).length c11)) (fun k e => by cases e; exact hnlt)
 obtain ⟨A12, c12, e12, hnd9, _⟩ := hN9.row (by have := HBK.out.tx.len; omega)
 cases e12
 have hc9 : (w11.setCell ⟨nb, 0, none⟩ (.slice A11 (flatG gs).length c11)).cell? ⟨nb, 0, none⟩ = some (.slice A11 (flatG gs).length c11) := World.cell?_setCell_same' _ _ _ (by rw [hcn]; rfl)
 have nbl := lcc w11 _ hcn
 clear hN hnd hN9
 repeat (refine planW_pure_step rfl rfl (fun K hK => ?_); go_simp; refine hK _ ?_; clear hK K)
 refine planW_one rfl rfl (fun K hK => ?_)
 go_simp
 refine hK.out _ _ (fun h => by simp at h) ?_
 clear hK K hcn hfn hnlt hnge hBB nbl
 have HB9 := hiD hb9
 have HN9 := hiD hnd9
 have n9 := lcc _ _ hc9
 generalize (w11.setCell ⟨nb, 0, none⟩ (.slice A11 (flatG gs).length c11)) = W9 at HB9 HN9 hc9 n9 ⊢
 exact tZ2) : P := h
theorem tZ101 {P : Prop} (h : P := by
 go_wp2_with fail
 go_meet
 case rel => exact ⟨xs, HPM.out, HBR.out, HBE.out⟩) : P := h
set_option maxRecDepth 100000 in
set_option maxHeartbeats 8000000 in
theorem back_call (most : Int) (SA : Option Addr) (sn sc : Nat) (A : Option Addr) (len c : Nat) (l : List Sg) (ns : List Nd) (way L : Int) (O : Option Addr) (olen oc : Nat) (os : List Int) (w : World) (hs : SgRow w SA l) (hsl : l.length = sn) (hsb : sn ≤ 140737488355328)
 (hn : NdRow w A ns) (hnl : ns.length = len) (ho : Row 1 IntAt w O os) (hol : os.length = olen) (holb : olen ≤ 140737488355328) :
 Calls Tryz.prog 5 #[ppv most SA sn sc A len c, pgv way L, .slice O olen oc] w fun e w' => e = .returned (.bool true) ∧ Bel w w' := by
 have HS := hiD hs
 have HSL := hiD hsl
 have HN := hiD hn
 have HNL := hiD hnl
 have HO := hiD ho
 have HOL := hiD hol
 have HB := hiD (big2_call most SA sn sc A len c l ((w.alloc (.cells #[.int .i64 most, .slice SA sn sc, .slice A len c] 56)).alloc (.cells #[.int .i64 way, .int .i64 L] 27)) (hs.gr (((Gr.refl w).alloc _).alloc _)) hsl hsb)
 clear hs hsl hn hnl ho hol
 go_enter Tryz.func5, Tryz.ntmps5
 go_wp2_with fail
 refine HB.out.mono ?_
 rintro e w3 ⟨b, rfl, hg, hb⟩
 have c0 := hg.cell (show ((w.alloc (.cells #[.int .i64 most, .slice SA sn sc, .slice A len c] 56)).alloc (.cells #[.int .i64 way, .int .i64 L] 27)).cell? ⟨w.heap.size, 0, none⟩ = some (.int .i64 most) by go_simp)
 have c1 := hg.cell (show ((w.alloc (.cells #[.int .i64 most, .slice SA sn sc, .slice A len c] 56)).alloc (.cells #[.int .i64 way, .int .i64 L] 27)).cell? ⟨w.heap.size, 1, none⟩ = some (.slice SA sn sc) by go_simp)
 have c2 := hg.cell (show ((w.alloc (.cells #[.int .i64 most, .slice SA sn sc, .slice A len c] 56)).alloc (.cells #[.int .i64 way, .int .i64 L] 27)).cell? ⟨w.heap.size, 2, none⟩ = some (.slice A len c) by go_simp)
 have d0 := hg.cell (show ((w.alloc (.cells #[.int .i64 most, .slice SA sn sc, .slice A len c] 56)).alloc (.cells #[.int .i64 way, .int .i64 L] 27)).cell? ⟨w.heap.size + 1, 0, none⟩ = some (.int .i64 way) by go_simp)
 have d1 := hg.cell (show ((w.alloc (.cells #[.int .i64 most, .slice SA sn sc, .slice A len c] 56)).alloc (.cells #[.int .i64 way, .int .i64 L] 27)).cell? ⟨w.heap.size + 1, 1, none⟩ = some (.int .i64 L) by go_simp)
 have HG3 := hiD ((((Gr.refl w).alloc _).alloc _).trans hg)
 clear hg
 cases b
 case true =>
  clear hb HB
  go_wp2_with (go_at_call 9; refine (works_call _).mono ?_; rintro e w4 ⟨rfl, hg4⟩; have HG4 := hiD hg4; clear hg4)
  go_ret
  exact ⟨rfl, HG3.out.bel.trans HG4.out⟩
 case false =>
  obtain ⟨b1, b2⟩ := hb rfl
  clear hb HB
  have n0 := lcc w3 _ c0
  have n1 := lcc w3 _ d0
  have hE : LayEnv w3 most SA sn sc A len c l ns := ⟨HS.out.gr HG3.out, HSL.out, by omega, HN.out.gr HG3.out, HNL.out, by omega⟩
  have HE := hiD hE
  have HC := hiD (checkR2_call most SA sn sc A len c l ns w3 hE)
  obtain ⟨ce, hce⟩ : ∃ ce, ce = checkR most l ns := ⟨_, rfl⟩
  rw [← hce] at HC
  have HCE := hiD hce
  clear hE hce
  go_wp2_with fail
  refine HC.out.mono ?_
  rintro e w4 ⟨rfl, hg4⟩
  by_cases h0 : ce = 0
  case neg =>
   have e0 : (ce != 0) = true := by simp [h0]
   have HG4 := hiD hg4
   clear hg4 h0
   go_wp2_with (go_at_call 9; refine (works_call _).mono ?_; rintro e w5 ⟨rfl, hg5⟩; have HG5 := hiD hg5; clear hg5)
   go_ret
   exact ⟨rfl, HG3.out.bel.trans (HG4.out.bel.trans HG5.out)⟩
  case pos =>
   subst h0
   have q0 := hg4.cell c0
   have q1 := hg4.cell c1
   have q2 := hg4.cell c2
   have r0 := hg4.cell d0
   have r1 := hg4.cell d1
   have m0 := lcc w4 _ q0
   have m1 := lcc w4 _ r0
   have HE4 := hiD (HE.out.gr hg4)
   have HG4 := hiD (HG3.out.trans hg4)
   clear hg4 c0 c1 c2 d0 d1 n0 n1 HG3 HE HC
   have HP := hiD (pageCheck4_call way L)
   obtain ⟨pe, hpe⟩ : ∃ pe, pe = pageE way L := ⟨_, rfl⟩
   rw [← hpe] at HP
   have HPE := hiD hpe
   clear hpe
   by_cases h0 : pe = 0
   case neg =>
    have e0 : (pe != 0) = true := by simp [h0]
    clear h0
    go_wp2_with (first
     | (go_at_call 26; refine (HP.out.at _).mono ?_; rintro e w5 ⟨rfl, q5, os5, rfl⟩)
     | (go_at_call 9; refine (works_call _).mono ?_; rintro e w6 ⟨rfl, hg6⟩; have HG6 := hiD hg6; clear hg6))
    go_ret
    exact ⟨rfl, HG4.out.bel.trans ((show Gr w4 _ from gw).bel.trans HG6.out)⟩
   case pos =>
    subst h0
    go_upto_region 3 with (go_at_call 26; refine (HP.out.at _).mono ?_; rintro e w5 ⟨rfl, q5, os5, rfl⟩)
    have g5 : Gr w4 (Sort.grow (w4.drewN q5) os5) := gw
    generalize Sort.grow (w4.drewN q5) os5 = w5 at g5 ⊢
    have q0 := g5.cell q0
    have q1 := g5.cell q1
    have q2 := g5.cell q2
    have r0 := g5.cell r0
    have r1 := g5.cell r1
    obtain ⟨gs, hbk⟩ := back_ok HCE.out.symm
    have HBK := hiD hbk
    have HPG := hiD (page_bd HPE.out.symm)
    have HE5 := hiD (HE4.out.gr g5)
    have HG5 := hiD (HG4.out.trans g5)
    have HQ := hiD (And.intro q0 (And.intro q1 (And.intro q2 (And.intro r0 r1))))
    clear hbk g5 HE4 HG4 HP q0 q1 q2 r0 r1 m0 m1
    refine region_plan (.take 0 (.take 2 (.take 4 (.one 1 (.one 3 (.one 5 (.pure 6 (.pure 7 (.pure 8 (.pure 9 (.pure 10 .done))))))))))) (Gr w5) [0, 1, 2, 3, 4] _ mixed (by kernel_rfl) (fun d _ _ _ _ h => by cases d <;> exact h) (fun _ _ h => h) ?_
    refine planW_take rfl rfl ((Gr.refl w5).drewN 1) (ppv most SA sn sc A len c) (fun w' hg' => ?_) ?_
    ·have := hg'.cell HQ.out.1
     have := hg'.cell HQ.out.2.1
     have := hg'.cell HQ.out.2.2.1
     go_simp
    refine planW_take rfl rfl ((Gr.refl w5).drewN 1) (ppv most SA sn sc A len c) (fun w' hg' => ?_) ?_
    ·have := hg'.cell HQ.out.1
     have := hg'.cell HQ.out.2.1
     have := hg'.cell HQ.out.2.2.1
     go_simp
    refine planW_take rfl rfl ((Gr.refl w5).drewN 1) (pgv way L) (fun w' hg' => ?_) ?_
    ·have := hg'.cell HQ.out.2.2.2.1
     have := hg'.cell HQ.out.2.2.2.2
     go_simp
    refine planW_one rfl rfl (fun K hK => ?_)
    go_simp
    refine (list4_call most SA sn sc A len c l w5.drew (HE5.out.sg.gr ((Gr.refl w5).drewN 1)) HSL.out (by omega) (listE_vals HBK.out.ls)).mono ?_
    rintro e w6 ⟨A6, ⟨c6, rfl⟩, hrd6, hg6⟩
    have hw6 := ((Gr.refl w5).drewN 1).trans hg6
    refine hK.out _ _ (fun _ => hw6) ?_
    have HS6 := hiD (hrd6 w6 (fun _ _ _ => rfl))
    have HG6 := hiD hw6
    clear hK K hg6 hw6 hrd6
    refine planW_one rfl rfl (fun K hK => ?_)
    go_simp
    refine (text4_call most SA sn sc A len c ns w6 (HE5.out.nd.gr HG6.out) HNL.out (by omega)).mono ?_
    rintro e w7 ⟨v7, rfl, ho7, hg7⟩
    have hw7 := HG6.out.trans hg7
    refine hK.out _ _ (fun _ => hw7) ?_
    obtain ⟨A7, c7, rfl, hnd7, _⟩ := ho7.row (by have := HNL.out; omega)
    have HE7 := hiD (show LayEnv w7 most A6 sn c6 A7 ns.length c7 l ns from ⟨HS6.out.gr hg7, HSL.out, by omega, hnd7, rfl, by have := HNL.out; omega⟩)
    have HG7 := hiD hw7
    clear hK K hg7 hw7 ho7 hnd7
    refine planW_one rfl rfl (fun K hK => ?_)
    go_simp
    refine (lay_ok most A6 sn c6 A7 ns.length c7 l ns (LeafG l) gs way L w7 HE7.out HBK.out.ck HPE.out.symm HBK.out.pl HBK.out.tx (by have := HPG.out; omega) (by have := HPG.out; omega) (by have := HPG.out; omega) (by have := HPG.out; omega)).mono ?_
    rintro e w8 ⟨v8, rfl, hO8, hg8⟩
    refine hK.out _ _ (fun h => by simp at h) ?_
    clear hK K
    obtain ⟨ps, hps⟩ : ∃ ps, ps = layP (zOf most l) (decide (way ≤ 2)) way L gs := ⟨_, rfl⟩
    rw [← hps] at hO8
    have hpl : ps.length ≤ 200 := lay_len HBK.out.tx way L HPE.out.symm (by rw [hps])
    have HO8 := hiD hO8
    obtain ⟨A8, c8, rfl, hr8⟩ := hO8.row (by omega)
    have HR8 := hiD hr8
    have HPS := hiD hps
    have HG8 := hiD (HG7.out.bel.trans hg8)
    obtain ⟨pl, hpl2⟩ : ∃ pl, pl = ps.length := ⟨_, rfl⟩
    rw [← hpl2] at HO8 hpl ⊢
    have HPL := hiD hpl2
    clear hO8 hr8 hps hg8 hpl2 HE7
    repeat (refine planW_pure_step rfl rfl (fun K hK => ?_); go_simp; refine hK _ ?_; clear hK K)
    simp only [planW]
    have HWP := hiD (show Bel w w5 from HG5.out.bel)
    clear HS6 HG6
    go_upto_block 0 with fail
    go_cut [9, 10, 11] from 43 to 88 (fun s9 s10 s11 wr => ∃ xs : List PB, Hid (xs.Perm ps) ∧ Hid (BoxRow wr A8 (xs.map raw)) ∧ Hid (Bel w5 wr))
    case rest =>
     obtain ⟨xs, HPM, HBR, HBE⟩ := hcut
     have HSC := hiD (show SgRow wc SA l from HE5.out.sg.below HBE.out)
     have HNC := hiD (show NdRow wc A ns from HE5.out.nd.below HBE.out)
     have HQC := hiD (And.intro (Bel.cell HBE.out HQ.out.1) (And.intro (Bel.cell HBE.out HQ.out.2.1) (And.intro (Bel.cell HBE.out HQ.out.2.2.1) (And.intro (Bel.cell HBE.out HQ.out.2.2.2.1) (Bel.cell HBE.out HQ.out.2.2.2.2)))))
     have HBW := hiD (show Bel w wc from HG5.out.bel.trans HBE.out)
     clear HR8 HG8 HO8 HG7 HQ HE5 HWP HG5 HN HS HO HOL q0 q1 q2 r0 r1
     have HAL := hiD (fun (W : World) (v : Value) => alloc_cell W v)
     have HAF := hiD (fun (W : World) (v : Value) => alloc_frz W v)
     go_upto_region 14 with fail
     refine region_plan (.pure 2 (.take 0 (.take 3 (.two 1 (.two 4 (.pure 5 (.pure 6 (.pure 7 (.one 8 (.one 9 (.pure 10 .done)))))) 8 (.one 4 (.pure 5 (.pure 6 (.pure 7 (.one 9 (.pure 10 .done))))))) 8 (.one 1 (.one 4 (.pure 5 (.pure 6 (.pure 7 (.one 9 (.pure 10 .done))))))))))) (Bel wc) [0, 1, 3, 8] _ mixed (by kernel_rfl) (fun d _ _ _ _ h => by cases d <;> exact h) (fun _ _ h => h) ?_
     repeat (refine planW_pure_step rfl rfl (fun K hK => ?_); go_simp; refine hK _ ?_; clear hK K)
     refine planW_take rfl rfl ((Gr.refl wc).drewN 1).bel (ppv most SA sn sc A len c) (fun w' hg' => ?_) ?_
     ·have := Bel.cell hg' HQC.out.1
      have := Bel.cell hg' HQC.out.2.1
      have := Bel.cell hg' HQC.out.2.2.1
      go_simp
     refine planW_take rfl rfl ((Gr.refl wc).drewN 1).bel (pgv way L) (fun w' hg' => ?_) ?_
     ·have := Bel.cell hg' HQC.out.2.2.2.1
      have := Bel.cell hg' HQC.out.2.2.2.2
      go_simp
     refine planW_two rfl rfl rfl rfl (fun K hK => ?_) (fun K hK => ?_)
     ·go_simp
      refine (list4_call most SA sn sc A len c l (wc.drew) (HSC.out.gr ((Gr.refl wc).drewN 1)) HSL.out (by omega) (listE_vals HBK.out.ls)).mono ?_
      rintro e w10 ⟨A10, ⟨c10, rfl⟩, hrd, hg10⟩
      have hw10 : Gr wc w10 := (((Gr.refl wc).drewN 1)).trans hg10
      have HS10 := hiD (hrd w10 (fun _ _ _ => rfl))
      refine hK.out _ _ (fun _ => hw10.bel) ?_
      have HG10 := hiD hw10
      clear hK K
      refine planW_two rfl rfl rfl rfl (fun K hK => ?_) (fun K hK => ?_)
      ·go_simp
       refine (read_call most A10 sn c10 l A8 pl c8 (xs.map raw) way L (w10) (HS10.out.gr (Gr.refl w10)) HSL.out (by omega) (HBR.out.mono fun _ _ _ => BoxAt.gr (HG10.out)) (by rw [List.length_map, HPM.out.length_eq, HPL.out]) (fun ys ms e1 _ h1 _ => by
        have e2 := raws_inj e1
        subst e2
        exact ⟨LeafG l, gs, (Option.some.inj (lay_lines HBK.out.tx way L HPE.out.symm (by rw [← HPS.out]; exact HPM.out) h1)).symm, HBK.out.tx⟩)).mono ?_
       rintro e w11 ⟨er, ns11, v11, hR, rfl, hN, hB11⟩
       obtain ⟨rfl, rfl⟩ := read_lay HBK.out.tx way L HPE.out.symm (by rw [← HPS.out]; exact HPM.out) HBK.out.ls HBK.out.cp hR
       refine hK.out _ _ (fun h => by simp at h) ?_
       clear hK K hR
       obtain ⟨A11, c11, rfl, hnd, _⟩ := hN.row (by have := HBK.out.tx.len; omega)
       repeat (refine planW_pure_step rfl rfl (fun K hK => ?_); go_simp; refine hK _ ?_; clear hK K)
       refine planW_one rfl rfl (fun K hK => ?_)
       go_simp
       have hb8 : Bel wc (w11.alloc (.cells #[.slice none 0 0] 33)) := HG10.out.bel.trans (Bel.trans hB11 ((Gr.refl w11).alloc _).bel)
       refine hK.out _ _ (fun _ => hb8) ?_
       clear hK K
       refine planW_one rfl rfl (fun K hK => ?_)
       go_simp
       refine hK.out _ _ (fun h => by simp at h) ?_
       clear hK K
       have hg9 : Gr w11 (w11.alloc (.cells #[.slice A11 (flatG gs).length c11] 33)) := (Gr.refl w11).alloc _
       have hb9 : Bel wc (w11.alloc (.cells #[.slice A11 (flatG gs).length c11] 33)) := HG10.out.bel.trans (Bel.trans hB11 hg9.bel)
       have hnd9 := hnd.gr hg9
       have hc9 := HAL.out w11 (.slice A11 (flatG gs).length c11)
       obtain ⟨nb, hnb⟩ : ∃ nb, nb = w11.heap.size := ⟨_, rfl⟩
       rw [← hnb] at hc9 ⊢
       clear hg9 hnd hb8 hrd hg10 hw10 hnb
       have HB9 := hiD hb9
       have HN9 := hiD hnd9
       have n9 := lcc _ _ hc9
       generalize (w11.alloc (.cells #[.slice A11 (flatG gs).length c11] 33)) = W9 at HB9 HN9 hc9 n9 ⊢
       exact tZ2
      ·go_simp
       have hg8 : Gr w10 (w10.alloc (.cells #[.slice none 0 0] 33)) := (Gr.refl w10).alloc _
       have hb8 : Bel wc (w10.alloc (.cells #[.slice none 0 0] 33)) := HG10.out.bel.trans hg8.bel
       refine hK.out _ _ (fun _ => hb8) ?_
       clear hK K
       refine planW_one rfl rfl (fun K hK => ?_)
       go_simp
       refine (read_call most A10 sn c10 l A8 pl c8 (xs.map raw) way L (w10.alloc (.cells #[.slice none 0 0] 33)) (HS10.out.gr hg8) HSL.out (by omega) (HBR.out.mono fun _ _ _ => BoxAt.gr (HG10.out.trans hg8)) (by rw [List.length_map, HPM.out.length_eq, HPL.out]) (fun ys ms e1 _ h1 _ => by
        have e2 := raws_inj e1
        subst e2
        exact ⟨LeafG l, gs, (Option.some.inj (lay_lines HBK.out.tx way L HPE.out.symm (by rw [← HPS.out]; exact HPM.out) h1)).symm, HBK.out.tx⟩)).mono ?_
       rintro e w11 ⟨er, ns11, v11, hR, rfl, hN, hB11⟩
       obtain ⟨rfl, rfl⟩ := read_lay HBK.out.tx way L HPE.out.symm (by rw [← HPS.out]; exact HPM.out) HBK.out.ls HBK.out.cp hR
       refine hK.out _ _ (fun h => by simp at h) ?_
       clear hK K hR
       have hcn := bel_cell (p := ⟨w10.heap.size, 0, none⟩) (v := .slice none 0 0) hB11 (HAL.out w10 (.slice none 0 0))
       have hnlt : w10.heap.size < (w10.alloc (.cells #[.slice none 0 0] 33)).heap.size := lcc _ _ (HAL.out w10 (.slice none 0 0))
       have hfn : w11.frozen? ⟨w10.heap.size, 0, none⟩ = false := (World.frozen?_of_block (Below.block hB11 w10.heap.size hnlt)).trans (HAF.out w10 (.slice none 0 0))
       obtain ⟨nb, hnb⟩ : ∃ nb, nb = w10.heap.size := ⟨_, rfl⟩
       have hnge : wc.heap.size ≤ w10.heap.size := HG10.out.b.size
       have hBB : Bel wc w11 := hb8.trans hB11
       rw [← hnb] at hcn hfn hnlt hnge ⊢
       exact tZ11
     ·go_simp
      have hg8 : Gr wc ((wc.drewN 1).alloc (.cells #[.slice none 0 0] 33)) := ((Gr.refl wc).drewN 1).alloc _
      refine hK.out _ _ (fun _ => hg8.bel) ?_
      clear hK K
      refine planW_one rfl rfl (fun K hK => ?_)
      go_simp
      refine (list4_call most SA sn sc A len c l ((wc.drewN 1).alloc (.cells #[.slice none 0 0] 33)) (HSC.out.gr hg8) HSL.out (by omega) (listE_vals HBK.out.ls)).mono ?_
      rintro e w10 ⟨A10, ⟨c10, rfl⟩, hrd, hg10⟩
      have hw10 : Gr wc w10 := (hg8).trans hg10
      have HS10 := hiD (hrd w10 (fun _ _ _ => rfl))
      refine hK.out _ _ (fun _ => hw10.bel) ?_
      have HG10 := hiD hw10
      clear hK K
      have hcn1 : ((wc.drewN 1).alloc (.cells #[.slice none 0 0] 33)).cell? ⟨wc.heap.size, 0, none⟩ = some (.slice none 0 0) := HAL.out (wc.drewN 1) (.slice none 0 0)
      have hcn0 := hg10.cell hcn1
      have hfn0 : w10.frozen? ⟨wc.heap.size, 0, none⟩ = false := (World.frozen?_of_block (hg10.b.block wc.heap.size (lcc _ _ hcn1))).trans (HAF.out (wc.drewN 1) (.slice none 0 0))
      refine planW_one rfl rfl (fun K hK => ?_)
      go_simp
      refine (read_call most A10 sn c10 l A8 pl c8 (xs.map raw) way L (w10) (HS10.out.gr (Gr.refl w10)) HSL.out (by omega) (HBR.out.mono fun _ _ _ => BoxAt.gr (HG10.out)) (by rw [List.length_map, HPM.out.length_eq, HPL.out]) (fun ys ms e1 _ h1 _ => by
       have e2 := raws_inj e1
       subst e2
       exact ⟨LeafG l, gs, (Option.some.inj (lay_lines HBK.out.tx way L HPE.out.symm (by rw [← HPS.out]; exact HPM.out) h1)).symm, HBK.out.tx⟩)).mono ?_
      rintro e w11 ⟨er, ns11, v11, hR, rfl, hN, hB11⟩
      obtain ⟨rfl, rfl⟩ := read_lay HBK.out.tx way L HPE.out.symm (by rw [← HPS.out]; exact HPM.out) HBK.out.ls HBK.out.cp hR
      refine hK.out _ _ (fun h => by simp at h) ?_
      clear hK K hR
      obtain ⟨nb, hnb⟩ : ∃ nb, nb = wc.heap.size := ⟨_, rfl⟩
      have hcn := bel_cell (p := ⟨wc.heap.size, 0, none⟩) (v := .slice none 0 0) hB11 hcn0
      have hnlt : wc.heap.size < w10.heap.size := lcc w10 _ hcn0
      have hfn : w11.frozen? ⟨wc.heap.size, 0, none⟩ = false := (World.frozen?_of_block (Below.block hB11 wc.heap.size hnlt)).trans hfn0
      have hBB : Bel wc w11 := HG10.out.bel.trans hB11
      clear hcn0 hfn0 hcn1
      rw [← hnb] at hcn hfn hnlt ⊢
      have hnge : wc.heap.size ≤ nb := by omega
      exact tZ11
    case first =>
    go_wp2_with fail
    go_loopw [9] (fun i wr => ∃ (k : Nat) (xs : List PB), i = .int .i64 k ∧ k ≤ olen ∧ Hid (xs.Perm ps) ∧ Hid (BoxRow wr A8 (xs.map raw)) ∧ Hid (Bel w5 wr) ∧ Hid (1 < pl → ∃ g, A8 = some ⟨g, 0, none⟩ ∧ w7.heap.size ≤ g ∧ Held w8 g xs wr)) (fun i _ => olen - (intOf i).toNat)
    case atStart =>
     refine ⟨0, ps, rfl, Nat.zero_le _, List.Perm.refl _, HR8.out, HG8.out, fun h1 => ?_⟩
     obtain ⟨_, g, c9, e, hg, hH⟩ := Held.of_own HO8.out (fun e => by have := HPL.out; rw [e] at this; simp at this; omega)
     cases e
     exact ⟨g, rfl, hg, hH⟩
    case round =>
     obtain ⟨k, xs, rfl, hk, HPM, HBR, HBE, HHE⟩ := hrel
     by_cases h1 : k < olen
     ·by_cases h2 : k < 400
      ·by_cases h3 : 1 < pl
       ·obtain ⟨g, rfl, hg, hH⟩ := HHE.out h3
        have dd1 : decide ((k : Int) < (olen : Int)) = true := by simp; omega
        have dd2 : decide ((k : Int) < 400) = true := by simp; omega
        have dd3 : decide ((1 : Int) < (pl : Int)) = true := by simp; omega
        obtain ⟨o, ho⟩ : ∃ o, os[k]? = some o := ⟨_, gE (by rw [HOL.out]; exact h1)⟩
        obtain ⟨ob, oo, rfl, hoc⟩ := HO.out.2 k o ho
        have hoc2 := HBE.out.cell (HWP.out.cell hoc)
        rw [Nat.mul_one] at hoc2
        have no := lcc wr _ hoc2
        have tk : ((k : Nat) : Int).toNat = k := by omega
        have HH := hiD hH
        have HGL := hiD hg
        have ng := hH.nlt
        have hxl : xs.length = pl := by rw [HPM.out.length_eq, HPL.out]
        have HXL := hiD hxl
        have hp0 : (0 : Int) < (pl : Int) := by omega
        obtain ⟨kk, hkk⟩ : ∃ kk : Nat, (k : Int) % (pl : Int) = (kk : Int) := ⟨k % pl, by omega⟩
        have hkp : kk < pl := by have := Int.emod_lt_of_pos (k : Int) hp0; omega
        have tb1 := Int.tmod_lt_of_pos o hp0
        have tb2 := Int.lt_tmod_of_pos o hp0
        have HG57 := hiD (show w5.heap.size ≤ g from Nat.le_trans HG7.out.b.size hg)
        clear ho hoc hg hH HHE hxl hp0 HBR HBE
        have key : ∀ j : Nat, j < pl → ∃ x y, rowV 15 wr g (kk * 15) = some (pv x) ∧ rowV 15 wr g (j * 15) = some (pv y) ∧ ((xs.set kk y).set j x).Perm ps := fun j hjp => by
         have e1 := HXL.out
         refine ⟨xs[kk], xs[j], HH.out.load (gE (by omega)), HH.out.load (gE (by omega)), (List.set_set_perm (by omega) (by omega)).trans HPM.out⟩
        by_cases ht : o.tmod (pl : Int) < 0
        ·obtain ⟨j, hj⟩ : ∃ j : Nat, IntKind.i64.wrap (o.tmod (pl : Int) + (pl : Int)) = (j : Int) ∧ j < pl := ⟨(o.tmod (pl : Int) + (pl : Int)).toNat, by
          rw [IntWalk.i64_in _ ⟨by omega, by omega⟩]; omega, by omega⟩
         obtain ⟨hj, hjp⟩ := hj
         obtain ⟨x, y, l1, l2, hpe⟩ := key j hjp
         have HPE2 := hiD hpe
         clear key hpe
         have dd4 : decide (o.tmod (pl : Int) < 0) = true := by simp [ht]
         exact tZ6
        ·obtain ⟨j, hj⟩ : ∃ j : Nat, o.tmod (pl : Int) = (j : Int) := ⟨(o.tmod (pl : Int)).toNat, by omega⟩
         rw [hj] at tb1 tb2 ht
         have hjp : j < pl := by omega
         obtain ⟨x, y, l1, l2, hpe⟩ := key j hjp
         have HPE2 := hiD hpe
         clear key hpe tb1 tb2 ht
         exact tZ6
       ·have dd1 : decide ((k : Int) < (olen : Int)) = true := by simp; omega
        have dd2 : decide ((k : Int) < 400) = true := by simp; omega
        have dd3 : decide ((1 : Int) < (pl : Int)) = false := by simp; omega
        clear HHE
        exact tZ101
      ·have dd1 : decide ((k : Int) < (olen : Int)) = true := by simp; omega
       have dd2 : decide ((k : Int) < 400) = false := by simp; omega
       clear HHE
       exact tZ101
     ·have dd1 : decide ((k : Int) < (olen : Int)) = false := by simp; omega
      clear HHE
      exact tZ101
end Go.Proofs.OGW
