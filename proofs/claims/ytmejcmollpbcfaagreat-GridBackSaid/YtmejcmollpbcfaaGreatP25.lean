import Derived.Test.YtmejcmollpbcfaaGreatP24
set_option linter.all false
namespace Go.Proofs.OGW
open Go.RowKit Go.Sort OG Go.Shelf Go.PlainAid
attribute [local go_sem] sA fv sB sG sC Nat.zero_add
attribute [local go_sem ↓] ld66 ld51 st66 st51
theorem mk_bd (n : Int) (d : Nat) (hn : 0 ≤ n) (hd : 0 < d) : 0 ≤ (mkRat n d).num ∧ (mkRat n d).num ≤ n ∧ (mkRat n d).den ≤ d := by
 refine ⟨?_, ?_, ?_⟩
 ·rw [Rat.num_mkRat, if_neg (by omega)]; exact Int.ediv_nonneg hn (by omega)
 ·rw [Rat.num_mkRat, if_neg (by omega)]; exact Int.ediv_le_self _ hn
 ·rw [Rat.den_mkRat, if_neg (by omega)]; exact Nat.div_le_self _ _
theorem mul_bd (s : Rat) (n : Int) (h0 : 0 ≤ s.num) (hn : 0 ≤ n) : 0 ≤ (s * (n : Rat)).num ∧ (s * (n : Rat)).num ≤ s.num * n ∧ (s * (n : Rat)).den ≤ s.den := by
 have e := times_eq s n 1 (by decide)
 rw [show s * (n : Rat) / ((1 : Nat) : Rat) = s * n by rw [show ((1 : Nat) : Rat) = 1 from rfl]; grind, Nat.mul_one] at e
 rw [← e]
 exact mk_bd _ _ (Int.mul_nonneg h0 hn) s.den_pos
theorem addi_bd (x : Int) (q : Rat) (hx : 0 ≤ x) (hq : 0 ≤ q.num) : 0 ≤ ((x : Rat) + q).num ∧ ((x : Rat) + q).num ≤ x * q.den + q.num ∧ ((x : Rat) + q).den ≤ q.den := by
 rw [Rat.add_def']
 have e1 : (x : Rat).num = x := Rat.num_intCast x
 have e2 : (x : Rat).den = 1 := Rat.den_intCast x
 rw [e1, e2]
 have := mk_bd (x * q.den + q.num * ((1 : Nat) : Int)) (1 * q.den) (by have := Int.mul_nonneg hx (show (0 : Int) ≤ q.den by omega); simp; omega) (by have := q.den_pos; omega)
 simpa using this
theorem long_bd (rb : Bool) (g : GI) (w0 : 0 < g.W) (h0 : 0 < g.H) (hw : g.W ≤ 1200000) (hh : g.H ≤ 1200000) : 0 ≤ (g.long rb).num ∧ (g.long rb).num ≤ 57600000 ∧ (g.long rb).den ≤ 1200000 := by
 have hs := sc_bd rb g w0 h0 hw hh
 have hn : ((if rb then g.W else g.H : Nat) : Int) ≤ 1200000 := by cases rb <;> simp <;> omega
 have := mul_bd (g.sc rb) ((if rb then g.W else g.H : Nat) : Int) hs.1 (by omega)
 have h2 : (g.sc rb).num * ((if rb then g.W else g.H : Nat) : Int) ≤ 48 * 1200000 := Int.le_trans (Int.mul_le_mul_of_nonneg_right hs.2.1 (by omega)) (Int.mul_le_mul_of_nonneg_left hn (by decide))
 unfold GI.long
 omega
theorem le_num (q : Rat) (h : 0 ≤ q.num) : q ≤ (q.num : Rat) := by
 have hd := q.den_pos
 have e : q = (q.num : Rat) / (q.den : Rat) := by rw [← Rat.mkRat_eq_div, Rat.mkRat_self]
 rw [Rat.le_iff]
 simp only [Rat.num_intCast, Rat.den_intCast]
 have : q.num * 1 ≤ q.num * (q.den : Int) := Int.mul_le_mul_of_nonneg_left (by omega) h
 simpa using this
theorem ceil_bd (x : Int) (q : Rat) (hq : 0 ≤ q.num) (hx : 0 ≤ x) (N : Int) (hN : q.num ≤ N) : 0 ≤ ((x : Rat) + q).ceil ∧ ((x : Rat) + q).ceil ≤ x + N := by
 have h0 : (0 : Rat) ≤ q := Rat.num_nonneg.1 hq
 constructor
 ·have h1 : (0 : Rat) ≤ (x : Rat) + q := Rat.add_nonneg (by exact_mod_cast hx) h0
  have h2 := @Rat.le_ceil ((x : Rat) + q)
  have h3 : (0 : Rat) ≤ ((((x : Rat) + q).ceil : Int) : Rat) := Rat.le_trans h1 h2
  exact_mod_cast h3
 ·rw [Rat.ceil_le_iff, Rat.intCast_add]
  have h1 := le_num q hq
  have h2 : (q.num : Rat) ≤ (N : Rat) := by exact_mod_cast hN
  exact Rat.add_le_add_left.2 (Rat.le_trans h1 h2)
theorem cmpR_gt (a b : Rat) : decide (0 < cmpR a b) = decide (b < a) := by
 unfold cmpR
 by_cases h1 : a < b
 ·have : ¬ b < a := by grind
  simp [h1, this]
 ·by_cases h2 : b < a <;> simp [h1, h2]
set_option maxRecDepth 100000 in
set_option maxHeartbeats 8000000 in
theorem groups_call (most : Int) (SA : Option Addr) (sn sc : Nat) (A : Option Addr) (len c : Nat) (rb : Bool) (l : List Sg) (ns : List Nd) (w : World) (hE : LayEnv w most SA sn sc A len c l ns) (gis : List GI)
 (hch : GChain w (layv most SA sn sc A len c rb) ns 0 gis) (L : Int) (hL0 : 0 ≤ L) (hL : L ≤ 4800) (hgl : gis.length ≤ 1000000) :
 ∀ w1, Gr w w1 → Calls Tryz.prog 104 #[layv most SA sn sc A len c rb, .int .i64 L] w1 fun e w' => ∃ v', e = .returned v' ∧ OwnG w' w1.heap.size v' (standsP L rb gis 0 0) ∧ Gr w1 w' := by
 intro wA hgA
 have hE' := hE.gr hgA
 have hlen := hE.nb
 have HNL := hiD hE.nl
 have HE := hiD hE
 have HE' := hiD hE'
 have HCH := hiD hch
 have HGA := hiD hgA
 clear hE hE' hch hgA
 go_enter Tryz.func104, Tryz.ntmps104
 go_upto_region 1 with fail
 have m0 : (wA.alloc (.cells #[.int .i64 most, .slice SA sn sc, .slice A len c, .bool rb] 95)).cell? ⟨wA.heap.size, 0, none⟩ = some (.int .i64 most) := by go_simp
 have m1 : (wA.alloc (.cells #[.int .i64 most, .slice SA sn sc, .slice A len c, .bool rb] 95)).cell? ⟨wA.heap.size, 1, none⟩ = some (.slice SA sn sc) := by go_simp
 have m2 : (wA.alloc (.cells #[.int .i64 most, .slice SA sn sc, .slice A len c, .bool rb] 95)).cell? ⟨wA.heap.size, 2, none⟩ = some (.slice A len c) := by go_simp
 have m3 : (wA.alloc (.cells #[.int .i64 most, .slice SA sn sc, .slice A len c, .bool rb] 95)).cell? ⟨wA.heap.size, 3, none⟩ = some (.bool rb) := by go_simp
 have g1 : Gr wA (wA.alloc (.cells #[.int .i64 most, .slice SA sn sc, .slice A len c, .bool rb] 95)) := (Gr.refl wA).alloc _
 have s1 : (wA.alloc (.cells #[.int .i64 most, .slice SA sn sc, .slice A len c, .bool rb] 95)).heap.size = wA.heap.size + 1 := by simp
 generalize wA.alloc (.cells #[.int .i64 most, .slice SA sn sc, .slice A len c, .bool rb] 95) = W1 at m0 m1 m2 m3 g1 s1 ⊢
 have S1 := hiD s1
 have M0 := hiD m0
 have M1 := hiD m1
 have M2 := hiD m2
 have M3 := hiD m3
 have G1 := hiD g1
 clear m0 m1 m2 m3 g1 s1
 go_wp2
 go_loopw [8, 6, 7, 5] (fun i ln po u wr => ∃ (k : Nat) (x y : Int) (dn : List GP) (rest : List GI), i = .int .i64 k ∧ ln = .int .i64 x ∧ po = .int .i64 y ∧ k ≤ len ∧ 0 ≤ x ∧ x ≤ dn.length ∧ 0 ≤ y ∧ y ≤ 60000000 ∧ dn.length + rest.length ≤ 1000000 ∧
  Hid (standsP L rb gis 0 0 = dn ++ standsP L rb rest x y) ∧ Hid (GChain w (layv most SA sn sc A len c rb) ns k rest) ∧ Hid (OwnG wr wA.heap.size u dn) ∧ Hid (RowStep W1 wr (.slice none 0 0) u)) (fun i _ _ _ _ => len - (intOf i).toNat)
 case atStart => exact ⟨0, 0, 0, [], gis, rfl, rfl, rfl, Nat.zero_le _, by omega, by simp, by omega, by omega, by simpa using hgl, rfl, HCH.out, World.ownsRow_nil _ _ _ _, RowStep.gr (Gr.refl _) _⟩
 case round =>
  obtain ⟨k, x, y, dn, rest, rfl, rfl, rfl, hk, hx0, hx1, hy0, hy1, hdn, HST, HC, HOW, HRS⟩ := hrel
  have hgr : Gr W1 wr := HRS.out.gr_of (Gr.refl _) (by simp [Value.ownBlock])
  have HGR := hiD hgr
  have c0 := hgr.cell M0.out
  have c1 := hgr.cell M1.out
  have c2 := hgr.cell M2.out
  have c3 := hgr.cell M3.out
  have hb0 := lcc wr _ c0
  clear hgr
  cases rest with
  | nil =>
    have hkl : k = ns.length := HC.out
    rw [HNL.out] at hkl
    subst hkl
    have hd : decide ((k : Int) < (k : Int)) = false := by simp
    go_wp2_with fail
    go_ret
    have hst := HST.out
    rw [standsP, List.append_nil] at hst
    exact ⟨_, rfl, by rw [hst]; exact HOW.out, G1.out.trans HGR.out⟩
  | cons g rest =>
    obtain ⟨hgn, hgo, hC⟩ := HC.out
    have hb := FigB.wh g.F hgo.bd
    rw [hgo.w, hgo.h] at hb
    have hlb := long_bd rb g hgo.w0 hgo.h0 (by omega) (by omega)
    have hsb := sc_bd rb g hgo.w0 hgo.h0 (by omega) (by omega)
    have hkl : k < len := by obtain ⟨n, hn, _⟩ := hgo.nd; have := (gO hn).1; have := HNL.out; omega
    have hnx := endN_le (ns := ns) (i := g.node) (by have := HNL.out; omega)
    rw [hgo.nx, HNL.out] at hnx
    have HS := hiD (scale_any most SA sn sc A len c rb l ns w HE.out g hgo)
    have HA := hiD (along_any most SA sn sc A len c rb ns w g hgo)
    have hend : ∀ w1, Gr wA w1 → Calls Tryz.prog 150 #[layv most SA sn sc A len c rb, .int .i64 g.node] w1 fun e w' => e = .returned (.int .i64 (g.nx : Nat)) ∧ Gr w1 w' := fun w1 h1 => by
     have := layEnd_call most SA sn sc A c rb ns g.node w1 (HE'.out.gr h1).nd len HNL.out hlen (by omega)
     rw [hgo.nx] at this
     exact this
    have HEND := hiD hend
    have HC2 := hiD hC
    subst hgn
    have hd : decide ((g.node : Int) < (len : Int)) = true := by simp; omega
    have hne : some wA.heap.size ≠ u5.ownBlock := fun h => by
     rcases HRS.out.loc with e | e
     ·rw [e] at h; simp [Value.ownBlock] at h
     ·have := e _ h.symm; have := S1.out; omega
    have HNE := hiD hne
    obtain ⟨lg, hlg⟩ : ∃ lg, lg = g.long rb := ⟨_, rfl⟩
    obtain ⟨sc0, hsc⟩ : ∃ sc0, sc0 = g.sc rb := ⟨_, rfl⟩
    obtain ⟨ac, hac⟩ : ∃ ac, ac = g.across rb := ⟨_, rfl⟩
    rw [← hlg] at hlb HA
    rw [← hsc] at hsb HS HA
    rw [← hac] at HA
    have HLG := hiD hlg
    have HSC := hiD hsc
    clear hgo hb hC hend hlg hsc hac hne
    have hab := addi_bd y lg hy0 hlb.1
    have m1 := prod_bd (x := y) (y := lg.den) (N := 60000000) (D := 1200000) (by omega) (by omega) (by omega)
    have iy1 : (y : Rat).num = y := Rat.num_intCast y
    have iy2 : (y : Rat).den = 1 := Rat.den_intCast y
    have iL1 : (L : Rat).num = L := Rat.num_intCast L
    have iL2 : (L : Rat).den = 1 := Rat.den_intCast L
    have HW1 := hiD (whole_call y)
    have HW2 := hiD (whole_call L)
    have HAD := hiD (add_call (y : Rat) lg (by rw [iy1]; omega) (by rw [iy1]; omega) (by rw [iy2]; omega) (by rw [iy2]; omega) (by rw [iy2]; omega))
    have m2 := prod_bd (x := L) (y := ((y : Rat) + lg).den) (N := 4800) (D := 1200000) (by omega) (by omega) (by omega)
    have HCM := hiD (compare_call ((y : Rat) + lg) (L : Rat) (by rw [iL2]; omega) (by rw [iL2]; omega) (by rw [iL1]; omega) (by rw [iL1]; omega))
    have HGT := hiD (cmpR_gt ((y : Rat) + lg) (L : Rat))
    obtain ⟨cm, hcm⟩ : ∃ cm, cm = cmpR ((y : Rat) + lg) (L : Rat) := ⟨_, rfl⟩
    rw [← hcm] at HCM HGT
    clear hcm hab m1 m2 iy1 iy2 iL1 iL2
    by_cases hy : 0 < y
    ·have dy : decide (0 < y) = true := by simp [hy]
     by_cases hov : (L : Rat) < (y : Rat) + lg
     ·have dc : decide (0 < cm) = true := by rw [HGT.out]; simpa using hov
      have HOV := hiD hov
      have z9 : IntKind.i64.wrap (x + 1) = x + 1 := IntWalk.i64_in _ ⟨by omega, by omega⟩
      clear hov
      have z0 : IntKind.i64.wrap (0 + 24) = 24 := IntWalk.i64_in _ ⟨by omega, by omega⟩
      have hab := addi_bd (0 + 24) lg (by omega) hlb.1
      have hcb := ceil_bd (0 + 24) lg hlb.1 (by omega) 57600000 hlb.2.1
      have m3 := prod_bd (x := (0 + 24)) (y := lg.den) (N := 60000024) (D := 1200000) (by omega) (by omega) (by omega)
      have ip1 : ((0 + 24 : Int) : Rat).num = (0 + 24) := Rat.num_intCast _
      have ip2 : ((0 + 24 : Int) : Rat).den = 1 := Rat.den_intCast _
      have HW3 := hiD (whole_call (0 + 24))
      have HAD2 := hiD (add_call ((0 + 24 : Int) : Rat) lg (by rw [ip1]; omega) (by rw [ip1]; omega) (by rw [ip2]; omega) (by rw [ip2]; omega) (by rw [ip2]; omega))
      have HCE := hiD (ceil_call (((0 + 24 : Int) : Rat) + lg) (by omega) (by omega))
      obtain ⟨nx, hnxt⟩ : ∃ nx, nx = (((0 + 24 : Int) : Rat) + lg).ceil := ⟨_, rfl⟩
      rw [← hnxt] at HCE hcb
      have HNX := hiD hnxt
      clear hnxt hab m3 ip1 ip2
      go_wp2_with (first
       | (go_at_call 151; refine (HS.out _ (HGA.out.trans (G1.out.trans (HGR.out.trans gw)))).mono ?_; rintro e w' ⟨rfl, hgw⟩; obtain ⟨q1, os1, rfl⟩ := hgw.eq; clear hgw)
       | (go_at_call 105; refine (HA.out _ _ _ (HGA.out.trans (G1.out.trans (HGR.out.trans gw)))).mono ?_; rintro e w' ⟨rfl, hgw⟩; obtain ⟨q2, os2, rfl⟩ := hgw.eq; clear hgw))
      refine wp_region_quiet_grown mixed (by kernel_rfl) ?_
      repeat (go_big_quiet_step ((first | (go_at_call 45; (with_reducible exact HW1.out.quiet)) | (go_at_call 45; (with_reducible exact HW2.out.quiet)) | (go_at_call 82; exact HAD.out.quiet) | (go_at_call 44; exact HCM.out.quiet))))
      refine wpQuiet_nil ?_
      rintro w' ⟨⟨nq, osq⟩, rfl⟩
      go_wp2
      refine wp_region_quiet_grown mixed (by kernel_rfl) ?_
      repeat (go_big_quiet_step ((first | (go_at_call 45; exact HW3.out.quiet) | (go_at_call 82; exact HAD2.out.quiet) | (go_at_call 152; exact HCE.out.quiet))))
      refine wpQuiet_nil ?_
      rintro w' ⟨⟨nq, osq⟩, rfl⟩
      go_wp2_with (first
       | (at_builtin; refine wpList_grp rfl _ _ rfl wA.heap.size _ dn rfl (HOW.out.gr gw) _ _ ⟨g.node, sc0, (x + 1), 0⟩ rfl (fun j u hu => (World.cell?_alloc_at _ _ _ _ (by go_simp)).trans (by simpa using hu)) (by omega) ((G1.out.trans (HGR.out.trans gw)).b.size) ?_; intro v2 w3 HO3 HS3; have hst3 : RowStep wr w3 u5 v2 := (RowStep.gr gw u5).trans HS3.out; have f0 := hst3.cell c0 HNE.out; have f1 := hst3.cell c1 HNE.out; have f2 := hst3.cell c2 HNE.out; have f3 := hst3.cell c3 HNE.out; have hb3 := lcc w3 _ f0; have HST3 := hiD hst3; clear hst3)
       | (go_at_call 150; refine (HEND.out _ (G1.out.trans ((HRS.out.trans HST3.out).gr_of (Gr.refl _) (by simp [Value.ownBlock])))).mono ?_; rintro e w4 ⟨rfl, hgw4⟩; have HG4 := hiD hgw4; clear hgw4))
      go_roundw
      case rel =>
       refine ⟨g.nx, (x + 1), nx, dn ++ [⟨g.node, sc0, (x + 1), 0⟩], rest, rfl, rfl, rfl, by omega, by omega, by simp; omega, by omega, by omega, by simp at hdn ⊢; omega, ?_, HC2.out, by exact (HO3.out.gr HG4.out), HRS.out.trans (HST3.out.trans (RowStep.gr HG4.out v2))⟩
       show _ = _
       rw [HST.out, standsP, if_pos ⟨hy, by rw [← HLG.out]; exact HOV.out⟩, HNX.out, ← HSC.out, ← HLG.out, List.append_assoc]
       rfl
      case measure => simp [intOf]; omega
     ·have dc : decide (0 < cm) = false := by rw [HGT.out]; simpa using hov
      have hyl : y ≤ 4800 := by
       have h1 : (y : Rat) ≤ (L : Rat) := by
        have h0 : (0 : Rat) ≤ lg := Rat.num_nonneg.1 hlb.1
        grind
       have h2 : y ≤ L := by exact_mod_cast h1
       omega
      have HOV := hiD hov
      clear hov
      obtain ⟨p24, hp24⟩ : ∃ p24, p24 = y + 24 := ⟨_, rfl⟩
      have z1 : y + 24 = p24 := hp24.symm
      have z0 : IntKind.i64.wrap (y + 24) = p24 := (IntWalk.i64_in _ ⟨by omega, by omega⟩).trans z1
      have zb : 0 ≤ p24 ∧ p24 ≤ 60000024 := by omega
      have HP24 := hiD hp24
      clear hp24
      have hab := addi_bd p24 lg (by omega) hlb.1
      have hcb := ceil_bd p24 lg hlb.1 (by omega) 57600000 hlb.2.1
      have m3 := prod_bd (x := p24) (y := lg.den) (N := 60000024) (D := 1200000) (by omega) (by omega) (by omega)
      have ip1 : ((p24 : Int) : Rat).num = p24 := Rat.num_intCast _
      have ip2 : ((p24 : Int) : Rat).den = 1 := Rat.den_intCast _
      have HW3 := hiD (whole_call p24)
      have HAD2 := hiD (add_call ((p24 : Int) : Rat) lg (by rw [ip1]; omega) (by rw [ip1]; omega) (by rw [ip2]; omega) (by rw [ip2]; omega) (by rw [ip2]; omega))
      have HCE := hiD (ceil_call (((p24 : Int) : Rat) + lg) (by omega) (by omega))
      obtain ⟨nx, hnxt⟩ : ∃ nx, nx = (((p24 : Int) : Rat) + lg).ceil := ⟨_, rfl⟩
      rw [← hnxt] at HCE hcb
      have HNX := hiD hnxt
      clear hnxt hab m3 ip1 ip2
      go_wp2_with (first
       | (go_at_call 151; refine (HS.out _ (HGA.out.trans (G1.out.trans (HGR.out.trans gw)))).mono ?_; rintro e w' ⟨rfl, hgw⟩; obtain ⟨q1, os1, rfl⟩ := hgw.eq; clear hgw)
       | (go_at_call 105; refine (HA.out _ _ _ (HGA.out.trans (G1.out.trans (HGR.out.trans gw)))).mono ?_; rintro e w' ⟨rfl, hgw⟩; obtain ⟨q2, os2, rfl⟩ := hgw.eq; clear hgw))
      refine wp_region_quiet_grown mixed (by kernel_rfl) ?_
      repeat (go_big_quiet_step ((first | (go_at_call 45; (with_reducible exact HW1.out.quiet)) | (go_at_call 45; (with_reducible exact HW2.out.quiet)) | (go_at_call 82; exact HAD.out.quiet) | (go_at_call 44; exact HCM.out.quiet))))
      refine wpQuiet_nil ?_
      rintro w' ⟨⟨nq, osq⟩, rfl⟩
      go_wp2
      refine wp_region_quiet_grown mixed (by kernel_rfl) ?_
      repeat (go_big_quiet_step ((first | (go_at_call 45; exact HW3.out.quiet) | (go_at_call 82; exact HAD2.out.quiet) | (go_at_call 152; exact HCE.out.quiet))))
      refine wpQuiet_nil ?_
      rintro w' ⟨⟨nq, osq⟩, rfl⟩
      go_wp2_with (first
       | (at_builtin; refine wpList_grp rfl _ _ rfl wA.heap.size _ dn rfl (HOW.out.gr gw) _ _ ⟨g.node, sc0, x, y⟩ rfl (fun j u hu => (World.cell?_alloc_at _ _ _ _ (by go_simp)).trans (by simpa using hu)) (by omega) ((G1.out.trans (HGR.out.trans gw)).b.size) ?_; intro v2 w3 HO3 HS3; have hst3 : RowStep wr w3 u5 v2 := (RowStep.gr gw u5).trans HS3.out; have f0 := hst3.cell c0 HNE.out; have f1 := hst3.cell c1 HNE.out; have f2 := hst3.cell c2 HNE.out; have f3 := hst3.cell c3 HNE.out; have hb3 := lcc w3 _ f0; have HST3 := hiD hst3; clear hst3)
       | (go_at_call 150; refine (HEND.out _ (G1.out.trans ((HRS.out.trans HST3.out).gr_of (Gr.refl _) (by simp [Value.ownBlock])))).mono ?_; rintro e w4 ⟨rfl, hgw4⟩; have HG4 := hiD hgw4; clear hgw4))
      go_roundw
      case rel =>
       refine ⟨g.nx, x, nx, dn ++ [⟨g.node, sc0, x, y⟩], rest, rfl, rfl, rfl, by omega, by omega, by simp; omega, by omega, by omega, by simp at hdn ⊢; omega, ?_, HC2.out, by exact (HO3.out.gr HG4.out), HRS.out.trans (HST3.out.trans (RowStep.gr HG4.out v2))⟩
       show _ = _
       rw [HST.out, standsP, if_neg (by rw [← HLG.out]; exact fun h => HOV.out h.2), ← HP24.out, HNX.out, ← HSC.out, ← HLG.out, List.append_assoc]
       rfl
      case measure => simp [intOf]; omega
    ·have dy : decide (0 < y) = false := by simp; omega
     obtain rfl : y = 0 := by omega
     have z0 : IntKind.i64.wrap (0 + 24) = 24 := IntWalk.i64_in _ ⟨by omega, by omega⟩
     have hab := addi_bd (0 + 24) lg (by omega) hlb.1
     have hcb := ceil_bd (0 + 24) lg hlb.1 (by omega) 57600000 hlb.2.1
     have m3 := prod_bd (x := (0 + 24)) (y := lg.den) (N := 60000024) (D := 1200000) (by omega) (by omega) (by omega)
     have ip1 : ((0 + 24 : Int) : Rat).num = (0 + 24) := Rat.num_intCast _
     have ip2 : ((0 + 24 : Int) : Rat).den = 1 := Rat.den_intCast _
     have HW3 := hiD (whole_call (0 + 24))
     have HAD2 := hiD (add_call ((0 + 24 : Int) : Rat) lg (by rw [ip1]; omega) (by rw [ip1]; omega) (by rw [ip2]; omega) (by rw [ip2]; omega) (by rw [ip2]; omega))
     have HCE := hiD (ceil_call (((0 + 24 : Int) : Rat) + lg) (by omega) (by omega))
     obtain ⟨nx, hnxt⟩ : ∃ nx, nx = (((0 + 24 : Int) : Rat) + lg).ceil := ⟨_, rfl⟩
     rw [← hnxt] at HCE hcb
     have HNX := hiD hnxt
     clear hnxt hab m3 ip1 ip2
     go_wp2_with (first
      | (go_at_call 151; refine (HS.out _ (HGA.out.trans (G1.out.trans (HGR.out.trans gw)))).mono ?_; rintro e w' ⟨rfl, hgw⟩; obtain ⟨q1, os1, rfl⟩ := hgw.eq; clear hgw)
      | (go_at_call 105; refine (HA.out _ _ _ (HGA.out.trans (G1.out.trans (HGR.out.trans gw)))).mono ?_; rintro e w' ⟨rfl, hgw⟩; obtain ⟨q2, os2, rfl⟩ := hgw.eq; clear hgw))
     refine wp_region_quiet_grown mixed (by kernel_rfl) ?_
     repeat (go_big_quiet_step (fail))
     refine wpQuiet_nil ?_
     rintro w' ⟨⟨nq, osq⟩, rfl⟩
     go_wp2
     refine wp_region_quiet_grown mixed (by kernel_rfl) ?_
     repeat (go_big_quiet_step ((first | (go_at_call 45; exact HW3.out.quiet) | (go_at_call 82; exact HAD2.out.quiet) | (go_at_call 152; exact HCE.out.quiet))))
     refine wpQuiet_nil ?_
     rintro w' ⟨⟨nq, osq⟩, rfl⟩
     go_wp2_with (first
      | (at_builtin; refine wpList_grp rfl _ _ rfl wA.heap.size _ dn rfl (HOW.out.gr gw) _ _ ⟨g.node, sc0, x, 0⟩ rfl (fun j u hu => (World.cell?_alloc_at _ _ _ _ (by go_simp)).trans (by simpa using hu)) (by omega) ((G1.out.trans (HGR.out.trans gw)).b.size) ?_; intro v2 w3 HO3 HS3; have hst3 : RowStep wr w3 u5 v2 := (RowStep.gr gw u5).trans HS3.out; have f0 := hst3.cell c0 HNE.out; have f1 := hst3.cell c1 HNE.out; have f2 := hst3.cell c2 HNE.out; have f3 := hst3.cell c3 HNE.out; have hb3 := lcc w3 _ f0; have HST3 := hiD hst3; clear hst3)
      | (go_at_call 150; refine (HEND.out _ (G1.out.trans ((HRS.out.trans HST3.out).gr_of (Gr.refl _) (by simp [Value.ownBlock])))).mono ?_; rintro e w4 ⟨rfl, hgw4⟩; have HG4 := hiD hgw4; clear hgw4))
     go_roundw
     case rel =>
      refine ⟨g.nx, x, nx, dn ++ [⟨g.node, sc0, x, 0⟩], rest, rfl, rfl, rfl, by omega, by omega, by simp; omega, by omega, by omega, by simp at hdn ⊢; omega, ?_, HC2.out, by exact (HO3.out.gr HG4.out), HRS.out.trans (HST3.out.trans (RowStep.gr HG4.out v2))⟩
      show _ = _
      rw [HST.out, standsP, if_neg (fun h => by omega), HNX.out, ← HSC.out, ← HLG.out, List.append_assoc]
      rfl
     case measure => simp [intOf]; omega
end Go.Proofs.OGW
namespace Go.Proofs.OGW
open Go.RowKit Go.Sort OG Go.Shelf Go.PlainAid
def SpotIn (x y W H : Int) (q : Spot) : Prop := x ≤ q.x ∧ q.x + q.w ≤ x + 4 * W ∧ y ≤ q.y ∧ q.y + q.h ≤ y + 4 * H ∧ 0 ≤ q.w ∧ 0 ≤ q.h
mutual
theorem spots_in : ∀ (k : Fig) (x y : Int), FigB k → ∀ q ∈ spots k x y, SpotIn x y (figW k) (figH k) q
 | .leaf n a b, x, y, h, q, hq => by
   unfold FigB at h
   simp only [spots, List.mem_singleton] at hq
   subst hq
   unfold SpotIn figW figH
   simp only
   omega
 | .over n a b m c d, x, y, h, q, hq => by
   unfold FigB at h
   simp only [spots, List.mem_cons, List.not_mem_nil, or_false] at hq
   unfold SpotIn figW figH
   rcases hq with rfl | rfl <;> simp only <;> omega
 | .beside ks s, x, y, h, q, hq => by
   unfold FigB at h
   obtain ⟨h1, h2, h3, h4, h5, h6⟩ := h
   have := spotsB_in ks s (maxFH ks) x y h1 h6 (Int.le_refl _) q (by simpa [spots] using hq)
   have e := stepW_eq s ks
   unfold SpotIn at this ⊢
   unfold figW figH
   rw [Int.mul_sub]
   rw [e] at this
   omega
 | .above ks s, x, y, h, q, hq => by
   unfold FigB at h
   obtain ⟨h1, h2, h3, h4, h5, h6⟩ := h
   have := spotsA_in ks s (maxFW ks) x y h1 h6 (Int.le_refl _) q (by simpa [spots] using hq)
   have e := stepH_eq s ks
   unfold SpotIn at this ⊢
   unfold figW figH
   rw [Int.mul_sub]
   rw [e] at this
   omega
 | .ring n f, x, y, h, q, hq => by
   unfold FigB at h
   have hw := FigB.wh f h.1
   simp only [spots, List.mem_cons] at hq
   have e1 : figW (.ring n f) = figW f + 24 := rfl
   have e2 : figH (.ring n f) = figH f + 24 := rfl
   rw [e1, e2]
   rcases hq with rfl | hq
   ·unfold SpotIn; simp only; omega
   ·have := spots_in f (x + 48) (y + 48) h.1 q hq
    unfold SpotIn at this ⊢
    omega
theorem spotsB_in : ∀ (ks : List Fig) (s m x y : Int), 0 ≤ s → FigBs ks → maxFH ks ≤ m → ∀ q ∈ spotsB s m ks x y, x ≤ q.x ∧ q.x + q.w ≤ x + 4 * (stepW s ks - s) ∧ y ≤ q.y ∧ q.y + q.h ≤ y + 4 * m ∧ 0 ≤ q.w ∧ 0 ≤ q.h
 | [], _, _, _, _, _, _, _, q, hq => by simp [spotsB] at hq
 | k :: r, s, m, x, y, hs, h, hm, q, hq => by
   have hw := FigB.wh k h.1
   have hn := step_nn s hs r h.2
   unfold maxFH at hm
   simp only [spotsB, List.mem_append] at hq
   rcases hq with hq | hq
   ·have := spots_in k x (y + 2 * (m - figH k)) h.1 q hq
    unfold SpotIn at this
    unfold stepW
    omega
   ·have := spotsB_in r s m (x + 4 * (figW k + s)) y hs h.2 (by omega) q hq
    unfold stepW
    omega
theorem spotsA_in : ∀ (ks : List Fig) (s m x y : Int), 0 ≤ s → FigBs ks → maxFW ks ≤ m → ∀ q ∈ spotsA s m ks x y, x ≤ q.x ∧ q.x + q.w ≤ x + 4 * m ∧ y ≤ q.y ∧ q.y + q.h ≤ y + 4 * (stepH s ks - s) ∧ 0 ≤ q.w ∧ 0 ≤ q.h
 | [], _, _, _, _, _, _, _, q, hq => by simp [spotsA] at hq
 | k :: r, s, m, x, y, hs, h, hm, q, hq => by
   have hw := FigB.wh k h.1
   have hn := step_nn s hs r h.2
   unfold maxFW at hm
   simp only [spotsA, List.mem_append] at hq
   rcases hq with hq | hq
   ·have := spots_in k (x + 2 * (m - figW k)) y h.1 q hq
    unfold SpotIn at this
    unfold stepH
    omega
   ·have := spotsA_in r s m x (y + 4 * (figH k + s)) hs h.2 (by omega) q hq
    unfold stepH
    omega
end
def spotBox (ns : List Nd) (sc X Y : Rat) (q : Spot) : PB :=
 ⟨((ns[q.node.toNat]?).map Nd.lf).getD (bare 0), X + sc * (q.x : Rat) / ((4 : Nat) : Rat), Y + sc * (q.y : Rat) / ((4 : Nat) : Rat), sc * (q.w : Rat) / ((4 : Nat) : Rat), sc * (q.h : Rat) / ((4 : Nat) : Rat)⟩
def crossP (line : Int) (ac : Rat) : Rat := ((72 * line : Int) : Rat) + (48 - ac) * ((1 : Int) : Rat) / ((2 : Nat) : Rat)
def groupBoxes (rb : Bool) (way : Int) (ns : List Nd) (gp : GP) (gi : GI) : List PB :=
 (spots gi.F 0 0).map fun q => turnedP (spotBox ns gp.s (if rb then (gp.pos : Rat) else crossP gp.line (gi.across rb)) (if rb then crossP gp.line (gi.across rb) else (gp.pos : Rat)) q) way
def boxesP (rb : Bool) (way L : Int) (ns : List Nd) (gis : List GI) : List PB := ((standsP L rb gis 0 0).zip gis).flatMap fun p => groupBoxes rb way ns p.1 p.2
theorem t4_bd (s : Rat) (n : Int) (h0 : 0 ≤ s.num) (h1 : s.num ≤ 48) (hd : s.den ≤ 1200000) (hn : 0 ≤ n) (hn1 : n ≤ 4800000) :
 0 ≤ (s * (n : Rat) / ((4 : Nat) : Rat)).num ∧ (s * (n : Rat) / ((4 : Nat) : Rat)).num ≤ 230400000 ∧ (s * (n : Rat) / ((4 : Nat) : Rat)).den ≤ 4800000 ∧ Ans 39 #[fv s, .int .i64 n, .int .i64 4] (fv (s * (n : Rat) / ((4 : Nat) : Rat))) := by
 have m0 : s.num * n ≤ 48 * 4800000 := Int.le_trans (Int.mul_le_mul_of_nonneg_right h1 hn) (Int.mul_le_mul_of_nonneg_left hn1 (by decide))
 have m1 := Int.mul_nonneg h0 hn
 have e := times_eq s n 4 (by decide)
 have b := mk_bd (s.num * n) (s.den * 4) m1 (by have := s.den_pos; omega)
 rw [e] at b
 exact ⟨b.1, by omega, by omega, times_call s n 4 (by decide) (by omega) (by omega) (by omega)⟩
theorem tZ98 {P : Prop} (h : P := by
 have := h2 i gp gi (by simpa using hp) (by simpa using hi)
 exact ⟨this.1, this.2.1, this.2.2.1, by have := this.2.2.2.1; omega, this.2.2.2.2⟩) : P := h
theorem standsP_get (L : Int) (rb : Bool) : ∀ (gis : List GI) (x y : Int), 0 ≤ x → 0 ≤ y → y ≤ 60000000 → (∀ g ∈ gis, 0 ≤ (g.long rb).num ∧ (g.long rb).num ≤ 57600000) → 0 ≤ L → L ≤ 4800 →
 (standsP L rb gis x y).length = gis.length ∧ ∀ (i : Nat) (gp : GP) (gi : GI), (standsP L rb gis x y)[i]? = some gp → gis[i]? = some gi → gp.node = gi.node ∧ gp.s = gi.sc rb ∧ 0 ≤ gp.line ∧ gp.line ≤ x + (i + 1) ∧ 0 ≤ gp.pos ∧ gp.pos ≤ 60000000
 | [], x, y, _, _, _, _, _, _ => ⟨rfl, fun i gp gi h => by simp [standsP] at h⟩
 | g :: r, x, y, hx, hy, hy2, hg, hL0, hL => by
   have h0 := hg g (by simp)
   unfold standsP
   by_cases hc : 0 < y ∧ (L : Rat) < (y : Rat) + g.long rb
   ·rw [if_pos hc]
    have cb := ceil_bd (0 + 24) (g.long rb) h0.1 (by omega) 57600000 h0.2
    obtain ⟨h1, h2⟩ := standsP_get L rb r (x + 1) _ (by omega) cb.1 (by omega) (fun k hk => hg k (by simp [hk])) hL0 hL
    refine ⟨by rw [List.length_cons, h1, List.length_cons], fun i gp gi hp hi => ?_⟩
    cases i with
    | zero =>
      simp only [List.getElem?_cons_zero, Option.some.injEq] at hp hi
      subst hp hi
      exact ⟨rfl, rfl, by simp only; omega, by simp only; omega, by simp, by simp⟩
    | succ i =>
      exact tZ98
   ·rw [if_neg hc]
    have hyl : y ≤ 4800 := by
     rcases Int.lt_or_le 0 y with hp | hp
     ·have hn : ¬ (L : Rat) < (y : Rat) + g.long rb := fun h => hc ⟨hp, h⟩
      have h1 : (y : Rat) ≤ (L : Rat) := by
       have h3 : (0 : Rat) ≤ g.long rb := Rat.num_nonneg.1 h0.1
       grind
      have h2 : y ≤ L := by exact_mod_cast h1
      omega
     ·omega
    have cb := ceil_bd (y + 24) (g.long rb) h0.1 (by omega) 57600000 h0.2
    obtain ⟨h1, h2⟩ := standsP_get L rb r x _ hx cb.1 (by omega) (fun k hk => hg k (by simp [hk])) hL0 hL
    refine ⟨by rw [List.length_cons, h1, List.length_cons], fun i gp gi hp hi => ?_⟩
    cases i with
    | zero =>
      simp only [List.getElem?_cons_zero, Option.some.injEq] at hp hi
      subst hp hi
      exact ⟨rfl, rfl, by simp only; omega, by simp only; omega, by simp only; omega, by simp only; omega⟩
    | succ i =>
      exact tZ98
end Go.Proofs.OGW
namespace Go.Proofs.OGW
open Go.RowKit Go.Sort OG Go.Shelf Go.PlainAid
attribute [local go_sem] sA fv sB sG sC Nat.zero_add run_cmSize run_cmPut
attribute [local go_sem ↓] ld66 ld51 st66 st51 execOp_inv0 execOp_inv3
theorem flat_at {α β : Type} (f : α → List β) (sz : Nat) (hf : ∀ x, (f x).length = sz) : ∀ (l : List α) (i j : Nat) (x : α), l[i]? = some x → j < sz → (l.flatMap f)[i * sz + j]? = (f x)[j]?
 | [], i, j, x, h, _ => by simp at h
 | y :: l, 0, j, x, h, hj => by
   simp only [List.getElem?_cons_zero, Option.some.injEq] at h
   subst h
   rw [List.flatMap_cons, Nat.zero_mul, Nat.zero_add, List.getElem?_append_left (by rw [hf]; exact hj)]
 | y :: l, i + 1, j, x, h, hj => by
   rw [List.flatMap_cons, List.getElem?_append_right (by rw [hf, Nat.add_mul]; omega), hf, show (i + 1) * sz + j - sz = i * sz + j by rw [Nat.add_mul]; omega]
   exact flat_at f sz hf l i j x (by simpa using h) hj
theorem tZ123 {P : Prop} (h : P := by
 rw [Addr.add_lit, Nat.zero_add] at this
 exact this) : P := h
theorem OwnG.slice {w : World} {B : Nat} {v : Value} {gs : List GP} (h : OwnG w B v gs) : ∃ A c, v = .slice A gs.length c ∧ ∀ (i : Nat) (g : GP), gs[i]? = some g → ∃ blk, A = some ⟨blk, 0, none⟩ ∧ B ≤ blk ∧ ∀ (j : Nat) (u : Value), (gcells g)[j]? = some u → w.cell? ⟨blk, i * 5 + j, none⟩ = some u := by
 rcases h.2 with ⟨rfl, h0⟩ | ⟨g, cap, cur, rfl, hb, hg, h1, h2, h3, h4⟩
 ·have : gs = [] := List.eq_nil_of_length_eq_zero h0
  subst this
  exact ⟨none, 0, rfl, fun i g hg => by simp at hg⟩
 ·refine ⟨_, cap, rfl, fun i x hx => ⟨g, rfl, hb, fun j u hu => ?_⟩⟩
  have hj : j < 5 := (gO hu).1
  have := h.cells (g := g) rfl (i * 5 + j) u (by unfold gpc; rw [flat_at gcells 5 (fun _ => rfl) gs i j x hx hj]; exact hu)
  exact tZ123
theorem OwnS.slice {w : World} {B : Nat} {v : Value} {gs : List Spot} (h : OwnS w B v gs) : ∃ A c, v = .slice A gs.length c ∧ ∀ (i : Nat) (g : Spot), gs[i]? = some g → ∃ blk, A = some ⟨blk, 0, none⟩ ∧ B ≤ blk ∧ ∀ (j : Nat) (u : Value), (scells g)[j]? = some u → w.cell? ⟨blk, i * 5 + j, none⟩ = some u := by
 rcases h.2 with ⟨rfl, h0⟩ | ⟨g, cap, cur, rfl, hb, hg, h1, h2, h3, h4⟩
 ·have : gs = [] := List.eq_nil_of_length_eq_zero h0
  subst this
  exact ⟨none, 0, rfl, fun i g hg => by simp at hg⟩
 ·refine ⟨_, cap, rfl, fun i x hx => ⟨g, rfl, hb, fun j u hu => ?_⟩⟩
  have hj : j < 5 := (gO hu).1
  have := h.cells (g := g) rfl (i * 5 + j) u (by unfold spc; rw [flat_at scells 5 (fun _ => rfl) gs i j x hx hj]; exact hu)
  exact tZ123
theorem GChain.mem {w : World} {lay : Value} {ns : List Nd} : ∀ {i : Nat} {gis : List GI}, GChain w lay ns i gis → ∀ g ∈ gis, GOk w lay ns g
 | _, [], _, g, h => by cases h
 | i, x :: r, hc, g, h => by
   rcases List.mem_cons.1 h with e | h
   ·rw [e]; exact hc.2.1
   ·exact GChain.mem hc.2.2 g h
abbrev OwnX (w : World) (B : Nat) (v : Value) (ps : List PB) : Prop := w.ownsRow B 66 15 v ps.length (rcells ps)
theorem OwnX.gr {w w' : World} {B : Nat} {v : Value} {ps : List PB} (h : OwnX w B v ps) (hg : Gr w w') : OwnX w' B v ps := h.kept (Gr.by hg) (by cases v.ownBlock <;> simp)
theorem wpList_boxA {w : World} {ops : Array Oper} {rest : List Oper} {o : Oper} {a : Act} {Q : Exit → Act → World → Prop} (hgd : o.guard = none) (s x : Operand)
 (ho : o.op = .call { callee := .builtin .append, args := #[s, x], argTypes := #[25, 25] }) (B : Nat) (v : Value) (ps : List PB) (hs : a.eval s = v) (hown : OwnX w B v ps)
 (g c : Nat) (q : PB) (hx : a.eval x = .slice (some ⟨g, 0, none⟩) 1 c) (hq : ∀ (j : Nat) (u : Value), (bcells (raw q))[j]? = some u → w.cell? ⟨g, j, none⟩ = some u) (hb : ps.length ≤ 2000000) (hbase : B ≤ w.heap.size)
 (h : ∀ v' w', Hid (OwnX w' B v' (ps ++ [q])) → Hid (RowStep w w' v v') → wpList Tryz.prog ops Q rest (a.put o.dst v') w') : wpList Tryz.prog ops Q (o :: rest) a w := by
 obtain ⟨i0, hi, hz0, hz1, hz2⟩ := info_parts info66
 refine wpList_app2 hgd s x 25 ho B 66 i0 _ 15 120 Tryz.underlying25 hi hz0 hz1 hz2 rfl (by decide) v ps.length (rcells ps) hs hown ⟨g, 0, none⟩ 1 c (bcells (raw q)) hx rfl ?_ ?_ (by unfold maxLen; omega) (by omega) hbase ?_
 ·intro j u hu
  rw [Addr.add_lit, Nat.zero_add]
  exact hq j u hu
 ·have := rcells_one [q]; simpa [rcells] using this
 ·intro v' w' HO Hg Hd Hl
  refine h v' w' ?_ ⟨Hg.out, Hd.out, Hl.out⟩
  have := HO.out
  show w'.ownsRow B 66 15 v' (ps ++ [q]).length (rcells (ps ++ [q]))
  rw [show rcells (ps ++ [q]) = rcells ps ++ bcells (raw q) by simp [rcells], List.length_append]
  exact this
theorem cross_bd (ln : Int) (ac : Rat) (h0 : 0 ≤ ln) (h1 : ln ≤ 310) (a0 : 0 ≤ ac.num) (a1 : ac.num ≤ 57600000) (ad : ac.den ≤ 1200000) :
 Ans 85 #[fv 48, fv ac] (fv (48 - ac)) ∧ Ans 39 #[fv (48 - ac), .int .i64 1, .int .i64 2] (fv ((48 - ac) * ((1 : Int) : Rat) / ((2 : Nat) : Rat))) ∧
 Ans 82 #[fv ((72 * ln : Int) : Rat), fv ((48 - ac) * ((1 : Int) : Rat) / ((2 : Nat) : Rat))] (fv (crossP ln ac)) ∧ -100000000000 ≤ (crossP ln ac).num ∧ (crossP ln ac).num ≤ 100000000000 ∧ (crossP ln ac).den ≤ 2400000 := by
 have n48 : (48 : Rat).num = 48 := rfl
 have d48 : (48 : Rat).den = 1 := rfl
 have hs := sub_call 48 ac (by rw [n48]; omega) (by rw [n48]; omega) (by rw [d48]; omega) (by rw [d48]; omega) (by rw [d48]; omega) (by omega) (by omega)
 have e1 : (48 : Rat) - ac = mkRat (48 * ac.den - ac.num) ac.den := by
  rw [Rat.sub_eq_add_neg, Rat.add_def', Rat.neg_num, Rat.neg_den, n48, d48]
  congr 1 <;> omega
 have mkb : ∀ (n : Int) (d : Nat) (N : Int), 0 < d → -N ≤ n → n ≤ N → -N ≤ (mkRat n d).num ∧ (mkRat n d).num ≤ N ∧ (mkRat n d).den ≤ d := by
  intro n d N hd h1 h2
  have hg : 1 ≤ (Nat.gcd d n.natAbs : Int) := by have := Nat.gcd_pos_of_pos_left n.natAbs hd; omega
  refine ⟨?_, ?_, ?_⟩
  ·rw [Rat.num_mkRat, if_neg (by omega)]
   have := Int.natAbs_ediv_le_natAbs n (Nat.gcd d n.natAbs : Int)
   omega
  ·rw [Rat.num_mkRat, if_neg (by omega)]
   have := Int.natAbs_ediv_le_natAbs n (Nat.gcd d n.natAbs : Int)
   omega
  ·rw [Rat.den_mkRat, if_neg (by omega)]; exact Nat.div_le_self _ _
 have b1 := mkb (48 * ac.den - ac.num) ac.den 57600000 ac.den_pos (by omega) (by omega)
 rw [← e1] at b1
 have e2 := times_eq (48 - ac) 1 2 (by decide)
 have ht := times_call (48 - ac) 1 2 (by decide) (by omega) (by omega) (by omega)
 have b2 := mkb ((48 - ac).num * 1) ((48 - ac).den * 2) 57600000 (by have := (48 - ac).den_pos; omega) (by omega) (by omega)
 rw [e2] at b2
 have i1 : ((72 * ln : Int) : Rat).num = 72 * ln := Rat.num_intCast _
 have i2 : ((72 * ln : Int) : Rat).den = 1 := Rat.den_intCast _
 obtain ⟨t, ht0⟩ : ∃ t, t = (48 - ac) * ((1 : Int) : Rat) / ((2 : Nat) : Rat) := ⟨_, rfl⟩
 have hcr : crossP ln ac = ((72 * ln : Int) : Rat) + t := by rw [ht0]; rfl
 rw [hcr, ← ht0]
 rw [← ht0] at b2 ht
 have p1 := prod_bd (x := 72 * ln) (y := t.den) (N := 22320) (D := 2400000) (by omega) (by omega) (by omega)
 have ha := add_call ((72 * ln : Int) : Rat) t (by rw [i1]; omega) (by rw [i1]; omega) (by rw [i2]; omega) (by rw [i2]; omega) (by rw [i2]; omega)
 have b3 := mkb (((72 * ln : Int) : Rat).num * t.den + t.num * ((72 * ln : Int) : Rat).den) (((72 * ln : Int) : Rat).den * t.den) 100000000000 (by rw [i2]; have := t.den_pos; omega) (by rw [i1, i2]; omega) (by rw [i1, i2]; omega)
 rw [← Rat.add_def', i2] at b3
 exact ⟨hs, ht, ha, b3.1, b3.2.1, by omega⟩
end Go.Proofs.OGW
