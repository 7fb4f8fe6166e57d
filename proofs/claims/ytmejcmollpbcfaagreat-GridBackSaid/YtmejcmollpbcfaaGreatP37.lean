import Derived.Test.YtmejcmollpbcfaaGreatP32
import Derived.Test.YtmejcmollpbcfaaGreatP35
import Derived.Test.YtmejcmollpbcfaaGreatP36
set_option linter.all false
namespace Go.Proofs.OGW
open Go.RowKit Go.Sort OG Go.Shelf Go.PlainAid
attribute [local go_sem] sA fv sB sG sC Nat.zero_add
attribute [local go_sem ↓] ld66 ld51 st66 st51
theorem res_cell_t {t K : Nat} (hA : ∀ w, (isAgg t).run Tryz.prog w = .ok true w) (hS : ∀ w, (sizeOf t).run Tryz.prog w = .ok K w) {fn : Func} {p q : Tmp} (h : fn.results = #[.cell p t, .tmp q]) {tmps : Array Value} {w : World} {n : Nat} {v u : Value}
 (hp : tmps.getD p undef = .pointer (some ⟨n, 0, none⟩)) (hq : tmps.getD q undef = u) (hv : rowV K w n 0 = some v) : (results fn tmps).run Tryz.prog w = .ok (.tuple #[v, u]) w := by
 have h1 := run_ldV hA hS n 0 w
 rw [hv] at h1
 exact tZ63
theorem NdRow.set {W : World} {A : Option Addr} {ns : List Nd} (h : NdRow W A ns) {k : Nat} (hk : ∀ b o, A = some ⟨b, o, none⟩ → k ≠ b) (i : Nat) (v : Value) : NdRow (W.setCell ⟨k, i, none⟩ v) A ns := by
 refine ⟨h.1, fun j x hx => ?_⟩
 obtain ⟨b, o, e, hc⟩ := h.2 j x hx
 have hne := hk b o e
 exact ⟨b, o, e, rowV_of rfl fun j' u hu => (World.cell?_setCell_other _ _ _ _ (by simp [hne, Ne.symm hne])).trans (rowV_cell hc j' u (by simpa [nv] using hu))⟩
abbrev tv (A : Option Addr) (len c : Nat) : Value := .agg #[.slice A len c]
set_option maxRecDepth 100000 in
set_option maxHeartbeats 4000000 in
theorem begin_ok (most : Int) (SA : Option Addr) (sn sc : Nat) (A : Option Addr) (len c : Nat) (l : List Sg) (ns : List Nd) (way L : Int) (w : World) (hE : LayEnv w most SA sn sc A len c l ns) (h0 : checkP most l ns = 0) (hp : pageE way L = 0) (hpl : (plainP 0 ns).length ≤ 1000000) :
 Calls Tryz.prog 65 #[lv most SA sn sc, tv A len c, pgv way L] w fun e w' => ∃ A' c', e = .returned (.tuple #[layv most SA sn sc A' (plainP 0 ns).length c' (decide (way ≤ 2)), .int .i64 0]) ∧ NdRow w' A' (plainP 0 ns) ∧ Below w.heap.size w w' := by
 have hck := plain_call most SA sn sc A len c l ns ((((w.alloc (.cells #[.int .i64 most, .slice SA sn sc] 24)).alloc (.cells #[.slice A len c] 33)).alloc (.cells #[.int .i64 way, .int .i64 L] 27)).alloc (.cells #[.int .i64 0, .slice none 0 0, .slice none 0 0, .bool false] 95)) (hE.gr (((((Gr.refl w).alloc _).alloc _).alloc _).alloc _))
 rw [h0] at hck
 have HCK := hiD hck
 have hpc := pageCheck_call way L
 rw [hp] at hpc
 have HPC := hiD hpc
 have HRW := hiD (rows_call way L)
 obtain ⟨out, hout⟩ : ∃ out, out = plainP 0 ns := ⟨_, rfl⟩
 rw [← hout] at HCK hpl ⊢
 obtain ⟨rb, hrb⟩ : ∃ rb, rb = decide (way ≤ 2) := ⟨_, rfl⟩
 rw [← hrb] at HRW ⊢
 obtain ⟨m, hm⟩ : ∃ m, m = out.length := ⟨_, rfl⟩
 rw [← hm] at hpl ⊢
 have HM := hiD hm
 clear hE hck hpc h0 hp hout hrb hm
 go_enter Tryz.func65, Tryz.ntmps65
 go_upto_region 2 with (go_at_call 19; refine HCK.out.mono ?_; rintro e w1 ⟨v, rfl, hO, hgw⟩; rw [if_pos rfl] at hO; obtain ⟨A', c', hv, hR, hA⟩ := hO.row (by have := HM.out; omega); rw [← HM.out] at hv; subst hv; have HR := hiD hR; have HA := hiD hA; have HG := hiD hgw; clear hgw hO hR hA)
 have hgw := HG.out
 have m0 := bel_cell (p := ⟨w.heap.size, 0, none⟩) (v := .int .i64 most) hgw (by go_simp)
 have m1 := bel_cell (p := ⟨w.heap.size, 1, none⟩) (v := .slice SA sn sc) hgw (by go_simp)
 have m2 := bel_cell (p := ⟨w.heap.size + 2, 0, none⟩) (v := .int .i64 way) hgw (by go_simp)
 have m3 := bel_cell (p := ⟨w.heap.size + 2, 1, none⟩) (v := .int .i64 L) hgw (by go_simp)
 have m4 := bel_cell (p := ⟨w.heap.size + 3, 0, none⟩) (v := .int .i64 0) hgw (by go_simp)
 have m5 := bel_cell (p := ⟨w.heap.size + 3, 1, none⟩) (v := .slice none 0 0) hgw (by go_simp)
 have m6 := bel_cell (p := ⟨w.heap.size + 3, 2, none⟩) (v := .slice none 0 0) hgw (by go_simp)
 have m7 := bel_cell (p := ⟨w.heap.size + 3, 3, none⟩) (v := .bool false) hgw (by go_simp)
 have f4 := bel_frozen (p := ⟨w.heap.size + 3, 0, none⟩) (v := .int .i64 0) hgw (by go_simp) (by go_simp)
 have f5 := bel_frozen (p := ⟨w.heap.size + 3, 1, none⟩) (v := .slice none 0 0) hgw (by go_simp) (by go_simp)
 have f6 := bel_frozen (p := ⟨w.heap.size + 3, 2, none⟩) (v := .slice none 0 0) hgw (by go_simp) (by go_simp)
 have f7 := bel_frozen (p := ⟨w.heap.size + 3, 3, none⟩) (v := .bool false) hgw (by go_simp) (by go_simp)
 have n0 := lcc w1 _ m0
 have n2 := lcc w1 _ m2
 have n3 := lcc w1 _ m4
 have hbw : Below w.heap.size w w1 := (((((Gr.refl w).alloc _).alloc _).alloc _).alloc _).b.trans (hgw.mono (by simp; omega))
 have HBW := hiD hbw
 clear hgw hbw HCK HG
 go_wp2_with (go_at_call 35; refine (HPC.out.at _).mono ?_; rintro e w' ⟨rfl, q, os, rfl⟩)
 simp only [Nat.add_assoc, Nat.reduceAdd]
 refine tail_grown 6 (by kernel_rfl) ?_
 simp only [List.take_succ_cons, List.take_zero, List.drop_succ_cons, List.drop_zero]
 repeat (go_big_quiet_step ((go_at_call 41; exact HRW.out.quiet)))
 refine wpQuiet_nil ?_
 rintro w' ⟨⟨nq, osq⟩, rfl⟩
 go_wp2
 refine bodyPost_ret (res_cell_t Tryz.isAgg95 Tryz.sizeOf95 Tryz.results65 rfl rfl ?_) rfl ⟨A', c', rfl, ?_, ?_⟩
 ·refine rowV_mono (show Gr _ _ from gw) (rowV_of rfl fun j u hu => ?_) rfl
  rcases j with _ | _ | _ | _ | j
  ·simp at hu; subst hu; go_simp
  ·simp at hu; subst hu; go_simp
  ·simp at hu; subst hu; go_simp
  ·simp at hu; subst hu; go_simp
  ·simp at hu
 ·have hk : ∀ b o, A' = some ⟨b, o, none⟩ → w.heap.size + 3 ≠ b := fun b o e => by have := HA.out b o e; simp at this; omega
  exact ((((HR.out.set hk _ _).set hk _ _).set hk _ _).set hk _ _).gr gw
 ·have hb := (((HBW.out.setCell (p := ⟨w.heap.size + 3, 0, none⟩) (Nat.le_add_right _ _) (.int .i64 most)).setCell (p := ⟨w.heap.size + 3, 1, none⟩) (Nat.le_add_right _ _) (.slice SA sn sc)).setCell (p := ⟨w.heap.size + 3, 2, none⟩) (Nat.le_add_right _ _) (.slice A' m c')).setCell (p := ⟨w.heap.size + 3, 3, none⟩) (Nat.le_add_right _ _) (.bool rb)
  exact hb.trans ((show Gr _ _ from gw).b.mono hb.size)
set_option maxRecDepth 100000 in
set_option maxHeartbeats 4000000 in
theorem begin_page (most : Int) (SA : Option Addr) (sn sc : Nat) (A : Option Addr) (len c : Nat) (l : List Sg) (ns : List Nd) (way L : Int) (w : World) (hE : LayEnv w most SA sn sc A len c l ns) (h0 : checkP most l ns = 0) (hp : pageE way L ≠ 0) :
 Calls Tryz.prog 65 #[lv most SA sn sc, tv A len c, pgv way L] w fun e w' => e = .returned (.tuple #[layv 0 none 0 0 none 0 0 false, .int .i64 (pageE way L)]) ∧ Below w.heap.size w w' := by
 have hck := plain_call most SA sn sc A len c l ns ((((w.alloc (.cells #[.int .i64 most, .slice SA sn sc] 24)).alloc (.cells #[.slice A len c] 33)).alloc (.cells #[.int .i64 way, .int .i64 L] 27)).alloc (.cells #[.int .i64 0, .slice none 0 0, .slice none 0 0, .bool false] 95)) (hE.gr (((((Gr.refl w).alloc _).alloc _).alloc _).alloc _))
 rw [h0] at hck
 have HCK := hiD hck
 have HPC := hiD (pageCheck_call way L)
 obtain ⟨pe, hpe⟩ : ∃ pe, pe = pageE way L := ⟨_, rfl⟩
 rw [← hpe] at HPC hp ⊢
 have d0 : (pe != 0) = true := by simp [hp]
 clear hE hck h0 hpe hp
 go_enter Tryz.func65, Tryz.ntmps65
 go_upto_region 2 with (go_at_call 19; refine HCK.out.mono ?_; rintro e w1 ⟨v, rfl, hO, hgw⟩; have hvf : v = .slice none 0 0 ∨ ∃ g n c, v = .slice (some ⟨g, 0, none⟩) n c := hO.2.imp (fun h => h.1) (fun ⟨g, cap, cur, e, _⟩ => ⟨g, _, cap, e⟩); have HVF := hiD hvf; have HG := hiD hgw; clear hgw hO hvf)
 have hgw := HG.out
 have m2 := bel_cell (p := ⟨w.heap.size + 2, 0, none⟩) (v := .int .i64 way) hgw (by go_simp)
 have m3 := bel_cell (p := ⟨w.heap.size + 2, 1, none⟩) (v := .int .i64 L) hgw (by go_simp)
 have m4 := bel_cell (p := ⟨w.heap.size + 3, 0, none⟩) (v := .int .i64 0) hgw (by go_simp)
 have m5 := bel_cell (p := ⟨w.heap.size + 3, 1, none⟩) (v := .slice none 0 0) hgw (by go_simp)
 have m6 := bel_cell (p := ⟨w.heap.size + 3, 2, none⟩) (v := .slice none 0 0) hgw (by go_simp)
 have m7 := bel_cell (p := ⟨w.heap.size + 3, 3, none⟩) (v := .bool false) hgw (by go_simp)
 have f4 := bel_frozen (p := ⟨w.heap.size + 3, 0, none⟩) (v := .int .i64 0) hgw (by go_simp) (by go_simp)
 have f5 := bel_frozen (p := ⟨w.heap.size + 3, 1, none⟩) (v := .slice none 0 0) hgw (by go_simp) (by go_simp)
 have f6 := bel_frozen (p := ⟨w.heap.size + 3, 2, none⟩) (v := .slice none 0 0) hgw (by go_simp) (by go_simp)
 have f7 := bel_frozen (p := ⟨w.heap.size + 3, 3, none⟩) (v := .bool false) hgw (by go_simp) (by go_simp)
 have n2 := lcc w1 _ m2
 have n3 := lcc w1 _ m4
 have hbw : Below w.heap.size w w1 := (((((Gr.refl w).alloc _).alloc _).alloc _).alloc _).b.trans (hgw.mono (by simp; omega))
 have HBW := hiD hbw
 clear hgw hbw HCK HG
 rcases HVF.out with rfl | ⟨g, n, c1, rfl⟩
 all_goals
  go_wp2_with (go_at_call 35; refine (HPC.out.at _).mono ?_; rintro e w' ⟨rfl, q, os, rfl⟩)
  simp only [Nat.add_assoc, Nat.reduceAdd]
  refine bodyPost_ret (res_cell_t Tryz.isAgg95 Tryz.sizeOf95 Tryz.results65 rfl rfl ?_) rfl ⟨rfl, ?_⟩
  ·refine rowV_mono (show Gr _ _ from gw) (rowV_of rfl fun j u hu => ?_) rfl
   rcases j with _ | _ | _ | _ | j
   ·simp at hu; subst hu; go_simp
   ·simp at hu; subst hu; go_simp
   ·simp at hu; subst hu; go_simp
   ·simp at hu; subst hu; go_simp
   ·simp at hu
  ·have hb := (((HBW.out.setCell (p := ⟨w.heap.size + 3, 0, none⟩) (Nat.le_add_right _ _) (.int .i64 0)).setCell (p := ⟨w.heap.size + 3, 1, none⟩) (Nat.le_add_right _ _) (.slice none 0 0)).setCell (p := ⟨w.heap.size + 3, 2, none⟩) (Nat.le_add_right _ _) (.slice none 0 0)).setCell (p := ⟨w.heap.size + 3, 3, none⟩) (Nat.le_add_right _ _) (.bool false)
   exact hb.trans ((show Gr _ _ from gw).b.mono hb.size)
end Go.Proofs.OGW
namespace Go.Proofs.OGW
open Go.RowKit Go.Sort OG
theorem quarter_rat {W : Nat} (h4 : 4 ∣ W) (h0 : 0 < W) : ∃ D : Nat, W = 4 * D ∧ 1 ≤ D ∧ (mkRat 48 W : Rat) = 12 / (D : Rat) := by
 obtain ⟨D, rfl⟩ := h4
 refine ⟨D, rfl, by omega, ?_⟩
 rw [Rat.mkRat_eq_div]
 have hD : (D : Rat) ≠ 0 := by have : D ≠ 0 := by omega
                               exact_mod_cast this
 rw [Rat.natCast_mul]
 have e : ((4 : Nat) : Rat) = 4 := rfl
 have e2 : ((48 : Int) : Rat) = 48 := rfl
 rw [e, e2]
 grind
structure ScaleOk (rb ring : Bool) (W H : Nat) (s : Rat) : Prop where
 form : ∃ D : Nat, 1 ≤ D ∧ D ≤ 6400 ∧ s = 12 / (D : Rat)
 pos : 0 < s
 one : s ≤ 1
 across : s * ((if rb then H else W : Nat) : Rat) ≤ 48
 both : ring = false → s * (W : Rat) ≤ 48 ∧ s * (H : Rat) ≤ 48
theorem frac_le {W : Nat} (h0 : 0 < W) : (mkRat 48 W : Rat) * (W : Rat) = 48 := by
 rw [Rat.mkRat_eq_div]
 have hD : (W : Rat) ≠ 0 := by have : W ≠ 0 := by omega
                               exact_mod_cast this
 have e2 : ((48 : Int) : Rat) = 48 := rfl
 rw [e2]
 grind
theorem least_le (a b : Rat) : leastR a b ≤ a ∧ leastR a b ≤ b ∧ (leastR a b = a ∨ leastR a b = b) := by
 unfold leastR
 split
 ·exact ⟨by grind, by grind, .inr rfl⟩
 ·exact ⟨by grind, by grind, .inl rfl⟩
theorem mul_mono {a b : Rat} {n : Nat} (h : a ≤ b) : a * (n : Rat) ≤ b * (n : Rat) := by
 have h0 : (0 : Rat) ≤ (n : Rat) := by exact_mod_cast Nat.zero_le n
 exact Rat.mul_le_mul_of_nonneg_right h h0
theorem one_form : ∃ D : Nat, 1 ≤ D ∧ D ≤ 6400 ∧ (1 : Rat) = 12 / (D : Rat) := ⟨12, by decide, by decide, by
 have : ((12 : Nat) : Rat) = 12 := rfl
 rw [this]; grind⟩
theorem scale_ok (rb ring : Bool) {W H : Nat} (w0 : 0 < W) (h0 : 0 < H) (w4 : 4 ∣ W) (h4 : 4 ∣ H) (w1 : W ≤ 25600) (h1 : H ≤ 25600) : ScaleOk rb ring W H (scaleR rb ring W H) := by
 have fW := frac_le w0
 have fH := frac_le h0
 obtain ⟨DW, eW, dW, qW⟩ := quarter_rat w4 w0
 obtain ⟨DH, eH, dH, qH⟩ := quarter_rat h4 h0
 have pos48 : ∀ {q : Rat} {n : Nat}, q * (n : Rat) = 48 → 0 < q := fun {q n} h => by
  by_cases hq : q ≤ 0
  ·have h1 := mul_mono (n := n) hq
   rw [h] at h1
   grind
  ·grind
 have pW := pos48 fW
 have pH := pos48 fH
 have FW : ∃ D : Nat, 1 ≤ D ∧ D ≤ 6400 ∧ (mkRat 48 W : Rat) = 12 / (D : Rat) := ⟨DW, dW, by omega, qW⟩
 have FH : ∃ D : Nat, 1 ≤ D ∧ D ≤ 6400 ∧ (mkRat 48 H : Rat) = 12 / (D : Rat) := ⟨DH, dH, by omega, qH⟩
 obtain ⟨a1, a2, a3⟩ := least_le 1 (mkRat 48 H)
 obtain ⟨b1, b2, b3⟩ := least_le 1 (mkRat 48 W)
 obtain ⟨c1, c2, c3⟩ := least_le (leastR 1 (mkRat 48 H)) (mkRat 48 W)
 have mW := fun {a : Rat} (h : a ≤ mkRat 48 W) => Rat.le_trans (mul_mono (n := W) h) (by rw [fW]; exact Rat.le_refl)
 have mH := fun {a : Rat} (h : a ≤ mkRat 48 H) => Rat.le_trans (mul_mono (n := H) h) (by rw [fH]; exact Rat.le_refl)
 have P1 : (0 : Rat) < 1 := by decide
 cases rb <;> cases ring
 ·simp only [scaleR, Bool.or_true, Bool.not_false, if_true]
  refine ⟨?_, ?_, ?_, mW c2, fun _ => ⟨mW c2, mH (Rat.le_trans c1 a2)⟩⟩
  ·rcases c3 with e | e <;> rw [e]
   ·rcases a3 with e | e <;> rw [e]
    ·exact one_form
    ·exact FH
   ·exact FW
  ·rcases c3 with e | e <;> rw [e]
   ·rcases a3 with e | e <;> rw [e]
    ·exact P1
    ·exact pH
   ·exact pW
  ·exact Rat.le_trans c1 a1
 ·simp only [scaleR, Bool.not_true, Bool.or_false, Bool.false_eq_true, if_false, Bool.not_false, Bool.true_or, if_true]
  refine ⟨?_, ?_, b1, mW b2, fun h => by cases h⟩
  ·rcases b3 with e | e <;> rw [e]
   ·exact one_form
   ·exact FW
  ·rcases b3 with e | e <;> rw [e]
   ·exact P1
   ·exact pW
 ·simp only [scaleR, Bool.or_true, Bool.not_false, if_true]
  refine ⟨?_, ?_, ?_, mH (Rat.le_trans c1 a2), fun _ => ⟨mW c2, mH (Rat.le_trans c1 a2)⟩⟩
  ·rcases c3 with e | e <;> rw [e]
   ·rcases a3 with e | e <;> rw [e]
    ·exact one_form
    ·exact FH
   ·exact FW
  ·rcases c3 with e | e <;> rw [e]
   ·rcases a3 with e | e <;> rw [e]
    ·exact P1
    ·exact pH
   ·exact pW
  ·exact Rat.le_trans c1 a1
 ·simp only [scaleR, Bool.not_true, Bool.or_false, Bool.false_eq_true, if_false, Bool.true_or, if_true]
  refine ⟨?_, ?_, a1, mH a2, fun h => by cases h⟩
  ·rcases a3 with e | e <;> rw [e]
   ·exact one_form
   ·exact FH
  ·rcases a3 with e | e <;> rw [e]
   ·exact P1
   ·exact pH
theorem vld_form {a b : Int} {D : Nat} (hD : 1 ≤ D) (hD2 : D ≤ 6400) (ha : -100000 ≤ a ∧ a ≤ 100000) (hb : -100000 ≤ b ∧ b ≤ 100000) : vld ((a : Rat) + 12 / (D : Rat) * (b : Rat)) = true := by
 have hD0 : (D : Rat) ≠ 0 := by have : D ≠ 0 := by omega
                                exact_mod_cast this
 have e : (a : Rat) + 12 / (D : Rat) * (b : Rat) = mkRat (a * D + 12 * b) D := by
  rw [Rat.mkRat_eq_div, Rat.intCast_add, Rat.intCast_mul, Rat.intCast_mul]
  have e1 : ((12 : Int) : Rat) = 12 := rfl
  have e2 : ((D : Int) : Rat) = (D : Rat) := rfl
  rw [e1, e2]
  grind
 rw [e]
 have hden : (mkRat (a * D + 12 * b) D).den ≤ D := by
  rw [Rat.den_mkRat, if_neg (by omega)]; exact Nat.div_le_self _ _
 have h1 : a * (D : Int) ≤ 100000 * 6400 := Int.le_trans (Int.mul_le_mul_of_nonneg_right ha.2 (by omega)) (Int.mul_le_mul_of_nonneg_left (by omega) (by decide))
 have h2 : -100000 * 6400 ≤ a * (D : Int) := by
  have : -a * (D : Int) ≤ 100000 * 6400 := Int.le_trans (Int.mul_le_mul_of_nonneg_right (by omega : -a ≤ 100000) (by omega)) (Int.mul_le_mul_of_nonneg_left (by omega) (by decide))
  rw [Int.neg_mul] at this
  omega
 obtain ⟨n, hn⟩ : ∃ n, n = a * (D : Int) + 12 * b := ⟨_, rfl⟩
 have h3 : -641200000 ≤ n ∧ n ≤ 641200000 := by omega
 rw [← hn] at hden ⊢
 have hnum : -641200000 ≤ (mkRat n D).num ∧ (mkRat n D).num ≤ 641200000 := by
  rw [Rat.num_mkRat, if_neg (by omega)]
  obtain ⟨g, hg⟩ : ∃ g : Nat, g = D.gcd n.natAbs := ⟨_, rfl⟩
  rw [← hg]
  have hg0 : 0 < g := by rw [hg]; exact Nat.gcd_pos_of_pos_left _ (by omega)
  have hdvd : (g : Int) ∣ n := by rw [hg]; exact Int.natAbs_dvd_natAbs.1 (by simpa using Nat.gcd_dvd_right _ _)
  obtain ⟨k, hk⟩ := hdvd
  rw [hk, Int.mul_ediv_cancel_left _ (by omega)]
  rcases Int.le_total 0 k with hk0 | hk0
  ·have : k ≤ (g : Int) * k := by
    have := Int.mul_le_mul_of_nonneg_right (show (1 : Int) ≤ g by omega) hk0
    simpa using this
   omega
  ·have : (g : Int) * k ≤ k := by
    have := Int.mul_le_mul_of_nonneg_right (show (1 : Int) ≤ g by omega) (show 0 ≤ -k by omega)
    simp only [Int.one_mul, Int.mul_neg] at this
    omega
   omega
 unfold vld
 simp only [Bool.and_eq_true, decide_eq_true_eq]
 omega
def isRingG : Grp → Bool
 | .ring _ => true
 | _ => false
def figG (z : Sz) (rb : Bool) (i : Nat) : Grp → Fig
 | .tree t => figOf z 0 i t
 | .ring ks => .ring i (if rb then .beside (figsOf z 1 (i + 1) ks) 20 else .above (figsOf z 1 (i + 1) ks) 20)
 | _ => .leaf 0 0 0
def giOf (z : Sz) (rb : Bool) (i : Nat) (g : Grp) : GI := ⟨i, figG z rb i g, (grpW z rb g).toNat, (grpH z rb g).toNat, isRingG g, i + g.flat.length⟩
def gisOf (z : Sz) (rb : Bool) : Nat → List Grp → List GI
 | _, [] => []
 | i, g :: r => giOf z rb i g :: gisOf z rb (i + g.flat.length) r
theorem gisOf_len (z : Sz) (rb : Bool) : ∀ (gs : List Grp) (i : Nat), (gisOf z rb i gs).length = gs.length
 | [], _ => rfl
 | g :: r, i => by rw [gisOf, List.length_cons, gisOf_len z rb r, List.length_cons]
structure PG where
 g : Grp
 s : Rat
 line : Int
 pos : Int
def scG (z : Sz) (rb : Bool) (g : Grp) : Rat := scaleR rb (isRingG g) (grpW z rb g).toNat (grpH z rb g).toNat
def longG (z : Sz) (rb : Bool) (g : Grp) : Rat := scG z rb g * (((if rb then (grpW z rb g).toNat else (grpH z rb g).toNat : Nat) : Int) : Rat)
def acrG (z : Sz) (rb : Bool) (g : Grp) : Rat := scG z rb g * (((if rb then (grpH z rb g).toNat else (grpW z rb g).toNat : Nat) : Int) : Rat)
def standL (z : Sz) (rb : Bool) (L : Int) : List Grp → Int → Int → List PG
 | [], _, _ => []
 | g :: r, ln, po => if 0 < po ∧ (L : Rat) < (po : Rat) + longG z rb g then ⟨g, scG z rb g, ln + 1, 0⟩ :: standL z rb L r (ln + 1) (((0 + 24 : Int) : Rat) + longG z rb g).ceil
    else ⟨g, scG z rb g, ln, po⟩ :: standL z rb L r ln (((po + 24 : Int) : Rat) + longG z rb g).ceil
def pgX (z : Sz) (rb : Bool) (p : PG) : Rat := if rb then (p.pos : Rat) else crossP p.line (acrG z rb p.g)
def pgY (z : Sz) (rb : Bool) (p : PG) : Rat := if rb then crossP p.line (acrG z rb p.g) else (p.pos : Rat)
def pgBoxes (z : Sz) (rb : Bool) (p : PG) : List PB := (grpSq z rb p.g).map (aff (p.s / 4) (pgX z rb p) (pgY z rb p))
def layP (z : Sz) (rb : Bool) (way L : Int) (gs : List Grp) : List PB := (standL z rb L gs 0 0).flatMap fun p => (pgBoxes z rb p).map fun b => turnedP b way
theorem spots_grp (z : Sz) (rb : Bool) (ns : List Nd) (g : Grp) (i : Nat) (rest : List Nd) (hp : isPlain g) (hd : ns.drop i = g.flat ++ rest) : All2 (Same1 ns) (spots (figG z rb i g) 0 0) (grpSq z rb g) := by
 cases g with
 | tree t => exact spots_place z ns t 0 i 0 0 rest hd
 | hon ks => exact hp.elim
 | ring ks =>
   obtain ⟨h1, h2⟩ := get_of_drop hd
   obtain ⟨e1, e2, e3, e4⟩ := figsW_of z ks 1 20 (i + 1)
   have hl := figsOf_len z 1 ks (i + 1)
   cases rb
   ·refine ⟨⟨by simp, by simp [h1], rfl, rfl, ?_, ?_⟩, ?_⟩
    ·show 4 * (figW (.above (figsOf z 1 (i + 1) ks) 20) + 24) = 4 * (inW z false ks + 24)
     simp only [figW, inW, Bool.false_eq_true, if_false, e3]
    ·show 4 * (figH (.above (figsOf z 1 (i + 1) ks) 20) + 24) = 4 * (inH z false ks + 24)
     simp only [figH, inH, Bool.false_eq_true, if_false, e2, hl, Int.mul_sub]
     omega
    ·show All2 _ (spots (.above (figsOf z 1 (i + 1) ks) 20) (0 + 48) (0 + 48)) (inSq z false ks)
     simp only [spots, inSq, Bool.false_eq_true, if_false, e3]
     exact spotsA_place z ns ks 1 20 _ (i + 1) 48 48 rest h2
   ·refine ⟨⟨by simp, by simp [h1], rfl, rfl, ?_, ?_⟩, ?_⟩
    ·show 4 * (figW (.beside (figsOf z 1 (i + 1) ks) 20) + 24) = 4 * (inW z true ks + 24)
     simp only [figW, inW, if_true, e1, hl, Int.mul_sub]
     omega
    ·show 4 * (figH (.beside (figsOf z 1 (i + 1) ks) 20) + 24) = 4 * (inH z true ks + 24)
     simp only [figH, inH, if_true, e4]
    ·show All2 _ (spots (.beside (figsOf z 1 (i + 1) ks) 20) (0 + 48) (0 + 48)) (inSq z true ks)
     simp only [spots, inSq, if_true, e4]
     exact spotsB_place z ns ks 1 20 _ (i + 1) 48 48 rest h2
 | rhon ks => exact hp.elim
theorem spotBox_aff (ns : List Nd) (s X Y : Rat) (q : Spot) (p : Sq) (h : Same1 ns q p) : spotBox ns s X Y q = aff (s / 4) X Y p := by
 obtain ⟨_, h1, h2, h3, h4, h5⟩ := h
 unfold spotBox aff
 rw [h1, h2, h3, h4, h5]
 have e : ((4 : Nat) : Rat) = 4 := rfl
 rw [e]
 simp only [Option.getD_some, PB.mk.injEq, true_and]
 refine ⟨by grind, by grind, by grind, by grind⟩
theorem boxes_lay (z : Sz) (rb : Bool) (way L : Int) (ns : List Nd) : ∀ (gs : List Grp) (i : Nat) (ln po : Int), (∀ g ∈ gs, isPlain g) → ns.drop i = flatG gs →
 (((standsP L rb (gisOf z rb i gs) ln po).zip (gisOf z rb i gs)).flatMap fun p => groupBoxes rb way ns p.1 p.2) = (standL z rb L gs ln po).flatMap fun p => (pgBoxes z rb p).map fun b => turnedP b way
 | [], i, ln, po, hp, hd => rfl
 | g :: r, i, ln, po, hp, hd => by
   have hd' : ns.drop i = g.flat ++ flatG r := hd
   have hs := spots_grp z rb ns g i (flatG r) (hp g (by simp)) hd'
   have ih := fun ln po => boxes_lay z rb way L ns r (i + g.flat.length) ln po (fun x hx => hp x (by simp [hx])) (drop_add hd')
   have key : ∀ (s : Rat) (ln po : Int), s = scG z rb g → groupBoxes rb way ns ⟨i, s, ln, po⟩ (giOf z rb i g) = (pgBoxes z rb ⟨g, s, ln, po⟩).map fun b => turnedP b way := fun s ln po hs' => by
    unfold groupBoxes pgBoxes
    rw [List.map_map]
    refine All2.map (fun q p hq => ?_) hs
    rw [spotBox_aff ns s _ _ q p hq]
    rfl
   have el : (giOf z rb i g).long rb = longG z rb g := rfl
   have es : (giOf z rb i g).sc rb = scG z rb g := rfl
   simp only [gisOf, standsP, standL]
   rw [el, es]
   by_cases hc : 0 < po ∧ (L : Rat) < (po : Rat) + longG z rb g
   ·rw [if_pos hc, if_pos hc, List.zip_cons_cons, List.flatMap_cons, List.flatMap_cons, ih]; exact congrArg (· ++ _) (key _ _ _ rfl)
   ·rw [if_neg hc, if_neg hc, List.zip_cons_cons, List.flatMap_cons, List.flatMap_cons, ih]; exact congrArg (· ++ _) (key _ _ _ rfl)
theorem boxesP_lay (z : Sz) (rb : Bool) (way L : Int) (gs : List Grp) (hp : ∀ g ∈ gs, isPlain g) : boxesP rb way L (flatG gs) (gisOf z rb 0 gs) = layP z rb way L gs := boxes_lay z rb way L (flatG gs) gs 0 0 0 hp (by simp)
end Go.Proofs.OGW
