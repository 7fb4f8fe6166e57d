import Derived.Test.YtmejcmollpbcfaaGreatP41
import Derived.Test.YtmejcmollpbcfaaGreatP46
set_option linter.all false
namespace Go.Proofs.OGW
open Go.RowKit Go.Sort OG Go.Shelf Go.PlainAid
attribute [local go_sem] sA fv sB sG sC Nat.zero_add
attribute [local go_sem ↓] ld66 ld51 st66 st51
theorem tZ41 {P : Prop} (h : P := by
 have h1 : q = (q.num : Rat) / (q.den : Rat) := by rw [← Rat.mkRat_eq_div, Rat.mkRat_self]
 have hd : (q.den : Rat) ≠ 0 := by have := q.den_nz; exact_mod_cast this
 have hn : (n : Rat) ≠ 0 := by exact_mod_cast (show n ≠ 0 by omega)
 rw [Rat.mkRat_eq_div]
 conv => lhs; rw [h1]
 rw [Rat.natCast_mul]
 grind) : P := h
theorem div_bd (q : Rat) (n : Nat) (h : 0 < n) (hq : 0 ≤ q.num) : 0 ≤ (q * ((1 : Int) : Rat) / (n : Rat)).num ∧ (q * ((1 : Int) : Rat) / (n : Rat)).num ≤ q.num ∧ (q * ((1 : Int) : Rat) / (n : Rat)).den ≤ q.den * n := by
 have e : q * ((1 : Int) : Rat) / (n : Rat) = mkRat q.num (q.den * n) := by
  exact tZ41
 rw [e]
 exact mk_bd _ _ hq (Nat.mul_pos q.den_pos h)
theorem scaleB_bd (most : Int) (l : List Sg) (b : PB) (hg : good b = true) (s : Rat) (h : scaleB most l b = some s) : -2147483647 ≤ s.num ∧ s.num ≤ 2147483647 ∧ s.den ≤ 1000000000 := by
 unfold scaleB at h
 have hw : vld b.w = true := by simp only [good, Bool.and_eq_true] at hg; exact hg.1.1.2
 simp only [vld, Bool.and_eq_true, decide_eq_true_eq] at hw
 have hp : 0 ≤ b.w.num := by
  simp only [good, placedP, Bool.and_eq_true, decide_eq_true_eq] at hg
  exact Rat.num_nonneg.2 (Rat.le_of_lt hg.2.1.1.1)
 have hb : ∀ n, wideOf most l b = some n → 0 ≤ n ∧ n ≤ 108 := by
  intro n hn
  unfold wideOf at hn
  have := sizeP_bd most l b.lf.sign b.lf.turn
  split at hn
  ·split at hn
   ·cases hn; omega
   ·cases hn
  ·cases hn; omega
 cases hn : wideOf most l b with
 | none => rw [hn] at h; cases h
 | some n =>
   rw [hn] at h
   by_cases h0 : n = 0
   ·simp [h0] at h
   ·simp only [h0, if_false] at h
    cases h
    have h1 := hb n hn
    obtain ⟨p0, p1, p2⟩ := div_bd b.w n.toNat (by omega) hp
    have p3 : b.w.den * n.toNat ≤ 32768 * 108 := Nat.mul_le_mul hw.1.1 (by omega)
    omega
theorem scaleOfP_bd (most : Int) (l : List Sg) (all : List PB) : ∀ (xs : List PB), (∀ x ∈ xs, good x = true) → ∀ s, scaleOfP most l all xs = some s → -2147483647 ≤ s.num ∧ s.num ≤ 2147483647 ∧ s.den ≤ 1000000000
 | [], _, s, h => by cases h
 | b :: r, hg, s, h => by
   unfold scaleOfP at h
   split at h
   ·exact scaleB_bd most l b (hg b (by simp)) s h
   ·exact scaleOfP_bd most l all r (fun x hx => hg x (by simp [hx])) s h
def isR (x : PB) : Bool := decide (x.lf.kind = 5)
def GuessR (most : Int) (l : List Sg) (ac : Bool) (xs : List PB) (r : Option (List Nd)) : Prop :=
 match scaleOfP most l xs xs with
 | none => r = none
 | some s => if xs.any isR = true then ∃ p q, SplitR ac (gapIs s 20) (xs.filter nring) p ∧ AllR (CutR s 4 1) p q ∧ r = q.map (⟨bare 5, 0⟩ :: ·) else CutR s 5 0 xs r
def GuessPost (W : World) (n : Nat) (R : Option (List Nd) → Prop) (e : Ending) (W' : World) : Prop :=
 ∃ r v', R r ∧ e = .returned (.tuple #[v', .bool r.isSome]) ∧ Gr W W' ∧ ∀ ns, r = some ns → ∃ A c, v' = .slice A ns.length c ∧ NdRow W' A ns ∧ ns.length ≤ 3 * n
theorem boxRow_keep {W W' : World} {g : Nat} {xs : List RBox} (h : BoxRow W (some ⟨g, 0, none⟩) xs) (hk : W'.heap[g]? = W.heap[g]?) : BoxRow W' (some ⟨g, 0, none⟩) xs := by
 refine ⟨h.1, fun j x hx => ?_⟩
 obtain ⟨b, o, e, hb⟩ := h.2 j x hx
 cases e
 refine ⟨g, 0, rfl, rowV_of rfl fun i v hv => ?_⟩
 exact (World.cell?_of_block (a := ⟨g, _, none⟩) hk).trans (rowV_cell hb i v (by simpa using hv))
theorem step_gr {W W1 W2 : World} {OB : Nat} {v v' : Value} (hg : Gr W W1) (h : StepO OB W1 W2 v v') (hv : ∀ k, v.ownBlock = some k → W.heap.size ≤ k) (hO : W.heap.size ≤ OB) : Gr W W2 :=
 ⟨⟨h.os.trans hg.b.os, h.tape.trans hg.b.tape, h.output.trans hg.b.output, Nat.le_trans hg.b.size h.size, fun k hk => (h.keep k (Nat.lt_of_lt_of_le hk hg.b.size) (by omega) (fun e => by have := hv k e.symm; omega)).trans (hg.b.block k hk)⟩, Nat.le_trans hg.d h.drawn⟩
set_option maxRecDepth 100000 in
set_option maxHeartbeats 8000000 in
theorem guess_call (most : Int) (SA : Option Addr) (sn sc : Nat) (l : List Sg) (A : Option Addr) (len c : Nat) (xs : List PB) (ac : Bool) (W : World) (hs : SgRow W SA l) (hsl : l.length = sn) (hsb : sn ≤ 1000000) (hr : BoxRow W A (xs.map raw)) (hg : ∀ x ∈ xs, good x = true) (hl : xs.length = len) (hlen : len ≤ 1000) :
 Calls Tryz.prog 46 #[lv most SA sn sc, .slice A len c, .bool ac] W (GuessPost W len (GuessR most l ac xs)) := by
 have g1 : Gr W (W.alloc (.cells #[.int .i64 most, .slice SA sn sc] 24)) := (Gr.refl W).alloc _
 have HSC := hiD (scaleOf_call most SA sn sc l A len c xs _ (hs.gr g1) hsl hsb (hr.mono fun _ _ _ => BoxAt.gr g1) hg hl (by omega))
 have HR := hiD hr
 have HG := hiD hg
 have HL := hiD hl
 have HB := hiD (scaleOfP_bd most l xs xs hg)
 obtain ⟨res, hres⟩ : ∃ res, res = scaleOfP most l xs xs := ⟨_, rfl⟩
 rw [← hres] at HSC HB
 have HRES := hiD hres
 have eg1 := ent_of (f := 89) Tryz.func89 (by kernel_rfl) rfl
 have eg2 := ent_of (f := 91) Tryz.func91 (by kernel_rfl) rfl
 have eg3 := ent_of (f := 94) Tryz.func94 (by kernel_rfl) rfl
 clear hs hsl hr hg hl hres
 go_enter Tryz.func46, Tryz.ntmps46
 go_wp2_with fail
 refine HSC.out.mono ?_
 rintro e w1 ⟨n, d, rfl, hnd, hg1⟩
 have HND := hiD hnd
 have HG1 := hiD (g1.trans hg1)
 clear hnd hg1 g1
 cases res with
 | none =>
   go_wp2
   go_ret2
   refine ⟨none, _, ?_, rfl, HG1.out.trans gw, fun ns h => by cases h⟩
   show GuessR _ _ _ _ _
   unfold GuessR
   rw [← HRES.out]
 | some s =>
   obtain ⟨rfl, rfl⟩ := HND.out s rfl
   have hlen1 : 1 ≤ len := by
    have h1 := HRES.out
    have h2 := HL.out
    cases xs with
    | nil => cases h1
    | cons b r => simp at h2; omega
   go_upto_region 10 with fail
   simp only [Nat.add_assoc, Nat.reduceAdd]
   obtain ⟨sb, hsb⟩ : ∃ sb, sb = w1.heap.size := ⟨_, rfl⟩
   rw [← hsb]
   have f1 : (((((w1.alloc (.cells #[.int .i64 s.num, .int .i64 (s.den : Int)] 64)).alloc (.cells #[.func (.func 89) #[] #[.pointer (some ⟨sb, 0, none⟩)]] 144)).alloc (.cells #[.slice none 0 0] 31)).alloc (.cells #[.func (.func 94) #[] #[.pointer (some ⟨sb + 2, 0, none⟩), .pointer (some ⟨sb + 1, 0, none⟩), .pointer (some ⟨sb + 4, 0, none⟩)]] 145)).alloc (.cells #[.func (.func 91) #[] #[.pointer (some ⟨sb + 3, 0, none⟩)]] 148)).heap.size = sb + 5 := by rw [hsb]; simp
   have f2 : Gr w1 (((((w1.alloc (.cells #[.int .i64 s.num, .int .i64 (s.den : Int)] 64)).alloc (.cells #[.func (.func 89) #[] #[.pointer (some ⟨sb, 0, none⟩)]] 144)).alloc (.cells #[.slice none 0 0] 31)).alloc (.cells #[.func (.func 94) #[] #[.pointer (some ⟨sb + 2, 0, none⟩), .pointer (some ⟨sb + 1, 0, none⟩), .pointer (some ⟨sb + 4, 0, none⟩)]] 145)).alloc (.cells #[.func (.func 91) #[] #[.pointer (some ⟨sb + 3, 0, none⟩)]] 148)) := gw
   have f3 : FrC (((((w1.alloc (.cells #[.int .i64 s.num, .int .i64 (s.den : Int)] 64)).alloc (.cells #[.func (.func 89) #[] #[.pointer (some ⟨sb, 0, none⟩)]] 144)).alloc (.cells #[.slice none 0 0] 31)).alloc (.cells #[.func (.func 94) #[] #[.pointer (some ⟨sb + 2, 0, none⟩), .pointer (some ⟨sb + 1, 0, none⟩), .pointer (some ⟨sb + 4, 0, none⟩)]] 145)).alloc (.cells #[.func (.func 91) #[] #[.pointer (some ⟨sb + 3, 0, none⟩)]] 148)) sb s := by
    constructor <;> (rw [hsb]; go_simp)
   have f4 : (((((w1.alloc (.cells #[.int .i64 s.num, .int .i64 (s.den : Int)] 64)).alloc (.cells #[.func (.func 89) #[] #[.pointer (some ⟨sb, 0, none⟩)]] 144)).alloc (.cells #[.slice none 0 0] 31)).alloc (.cells #[.func (.func 94) #[] #[.pointer (some ⟨sb + 2, 0, none⟩), .pointer (some ⟨sb + 1, 0, none⟩), .pointer (some ⟨sb + 4, 0, none⟩)]] 145)).alloc (.cells #[.func (.func 91) #[] #[.pointer (some ⟨sb + 3, 0, none⟩)]] 148)).cell? ⟨sb + 1, 0, none⟩ = some (.func (.func 89) #[] #[.pointer (some ⟨sb, 0, none⟩)]) := by rw [hsb]; go_simp
   have f5 : (((((w1.alloc (.cells #[.int .i64 s.num, .int .i64 (s.den : Int)] 64)).alloc (.cells #[.func (.func 89) #[] #[.pointer (some ⟨sb, 0, none⟩)]] 144)).alloc (.cells #[.slice none 0 0] 31)).alloc (.cells #[.func (.func 94) #[] #[.pointer (some ⟨sb + 2, 0, none⟩), .pointer (some ⟨sb + 1, 0, none⟩), .pointer (some ⟨sb + 4, 0, none⟩)]] 145)).alloc (.cells #[.func (.func 91) #[] #[.pointer (some ⟨sb + 3, 0, none⟩)]] 148)).cell? ⟨sb + 4, 0, none⟩ = some (.func (.func 91) #[] #[.pointer (some ⟨sb + 3, 0, none⟩)]) := by rw [hsb]; go_simp
   have f6 : (((((w1.alloc (.cells #[.int .i64 s.num, .int .i64 (s.den : Int)] 64)).alloc (.cells #[.func (.func 89) #[] #[.pointer (some ⟨sb, 0, none⟩)]] 144)).alloc (.cells #[.slice none 0 0] 31)).alloc (.cells #[.func (.func 94) #[] #[.pointer (some ⟨sb + 2, 0, none⟩), .pointer (some ⟨sb + 1, 0, none⟩), .pointer (some ⟨sb + 4, 0, none⟩)]] 145)).alloc (.cells #[.func (.func 91) #[] #[.pointer (some ⟨sb + 3, 0, none⟩)]] 148)).cell? ⟨sb + 3, 0, none⟩ = some (.func (.func 94) #[] #[.pointer (some ⟨sb + 2, 0, none⟩), .pointer (some ⟨sb + 1, 0, none⟩), .pointer (some ⟨sb + 4, 0, none⟩)]) := by rw [hsb]; go_simp
   have f7 : (((((w1.alloc (.cells #[.int .i64 s.num, .int .i64 (s.den : Int)] 64)).alloc (.cells #[.func (.func 89) #[] #[.pointer (some ⟨sb, 0, none⟩)]] 144)).alloc (.cells #[.slice none 0 0] 31)).alloc (.cells #[.func (.func 94) #[] #[.pointer (some ⟨sb + 2, 0, none⟩), .pointer (some ⟨sb + 1, 0, none⟩), .pointer (some ⟨sb + 4, 0, none⟩)]] 145)).alloc (.cells #[.func (.func 91) #[] #[.pointer (some ⟨sb + 3, 0, none⟩)]] 148)).heap[sb + 2]? = some (.cells #[.slice none 0 0] 31 (0, 0)) := by
    have h0 := heap_alloc_new ((w1.alloc (.cells #[.int .i64 s.num, .int .i64 (s.den : Int)] 64)).alloc (.cells #[.func (.func 89) #[] #[.pointer (some ⟨sb, 0, none⟩)]] 144)) (.cells #[.slice none 0 0] 31)
    have h1 : ((w1.alloc (.cells #[.int .i64 s.num, .int .i64 (s.den : Int)] 64)).alloc (.cells #[.func (.func 89) #[] #[.pointer (some ⟨sb, 0, none⟩)]] 144)).heap.size = sb + 2 := by rw [hsb]; simp
    rw [h1] at h0
    exact ((((Gr.refl _).alloc _).alloc _).b.block _ (by simp only [World.alloc, Array.size_push] at h1 ⊢; omega)).trans h0
   generalize (((((w1.alloc (.cells #[.int .i64 s.num, .int .i64 (s.den : Int)] 64)).alloc (.cells #[.func (.func 89) #[] #[.pointer (some ⟨sb, 0, none⟩)]] 144)).alloc (.cells #[.slice none 0 0] 31)).alloc (.cells #[.func (.func 94) #[] #[.pointer (some ⟨sb + 2, 0, none⟩), .pointer (some ⟨sb + 1, 0, none⟩), .pointer (some ⟨sb + 4, 0, none⟩)]] 145)).alloc (.cells #[.func (.func 91) #[] #[.pointer (some ⟨sb + 3, 0, none⟩)]] 148)) = W2 at f1 f2 f3 f4 f5 f6 f7 ⊢
   have hE : CEnv (sb + 2) (sb + 5) sb (sb + 1) (sb + 4) (sb + 3) s W2 := ⟨f3, f4, f5, f6, by omega, by omega⟩
   have hX : BoxO (sb + 2) (sb + 5) W2 (.slice none 0 0) [] := ⟨f7, OwnN.nil _ _, by omega⟩
   have G2 := hiD (HG1.out.trans f2)
   have hsW : W.heap.size ≤ sb := by have := HG1.out.b.size; omega
   have HE := hiD hE
   have HX := hiD hX
   clear f2 f3 f4 f5 f6 f7 hE hX
   obtain ⟨OB, hOB⟩ : ∃ OB, OB = sb + 2 := ⟨_, rfl⟩
   obtain ⟨gb, hgb⟩ : ∃ gb, gb = sb + 1 := ⟨_, rfl⟩
   obtain ⟨ab, hab⟩ : ∃ ab, ab = sb + 4 := ⟨_, rfl⟩
   obtain ⟨cb, hcb⟩ : ∃ cb, cb = sb + 3 := ⟨_, rfl⟩
   obtain ⟨B, hBB⟩ : ∃ B, B = sb + 5 := ⟨_, rfl⟩
   rw [← hOB, ← hgb, ← hab, ← hcb, ← hBB] at HE
   rw [← hOB, ← hBB] at HX
   rw [← hOB, ← hgb, ← hab, ← hcb]
   have hP : Pr W2 98 #[] (fun _ => True) isR := ⟨fun args w => by rfl, fun x w' _ _ => by simpa [isR] using isRing_call x w'⟩
   have HCO := hiD (contains_call W2 98 #[] _ _ hP A c xs W2 (Gr.refl W2) (HR.out.mono fun _ _ _ => BoxAt.gr G2.out) (fun _ _ => trivial) len HL.out (by omega))
   have hbd := HB.out s rfl
   obtain ⟨b1, b2, b3⟩ := hbd
   clear hP
   have hB2 : B ≤ W2.heap.size := by omega
   have hWO : W.heap.size ≤ OB := by omega
   have hOB2 : OB < B := by omega
   clear hOB hgb hab hcb hBB hsW hsb f1
   have hn0 : ∀ k, (Value.slice none 0 0).ownBlock = some k → W.heap.size ≤ k := fun k e => by cases e
   have hn5 : ∀ k, (Value.slice none 0 0).ownBlock = some k → B ≤ k := fun k e => by cases e
   have HN0 := hiD hn0
   have HN5 := hiD hn5
   clear hn0 hn5
   cases hrg : xs.any isR with
   | false =>
     rw [hrg] at HCO
     go_wp2_with fail
     refine HCO.out.mono ?_
     rintro e w3 ⟨rfl, hg3⟩
     have hE3 := HE.out.gr hg3
     have hX3 := HX.out.gr hg3
     have hcc := hE3.c
     have nc := lcc w3 _ hcc
     have HCUT := hiD (cut_ok OB B sb gb ab cb s b1 b2 b3 5 (by omega) w3 _ [] A len c xs 0 (by omega) hE3 hX3 (Nat.le_trans hB2 hg3.b.size) (HR.out.mono fun _ _ _ => BoxAt.gr (G2.out.trans hg3)) HG.out HL.out hlen (by unfold cutN; split <;> simp <;> omega))
     have HG3 := hiD (G2.out.trans hg3)
     clear hg3 hE3 hX3
     go_wp2_with (go_at_fn 94; refine HCUT.out.mono ?_; rintro e w4 ⟨r, v', out', hr4, rfl, hX4, hS4, hl4, hn4⟩; obtain ⟨hc4, hf4⟩ := cell_of_box' hX4.box; have nOB := lcc w4 _ hc4; have HR4 := hiD hr4; have HX4 := hiD hX4; have HS4 := hiD hS4; have HL4 := hiD hl4; have HN4 := hiD hn4; clear hr4 hX4 hS4 hl4 hn4)
     go_ret2
     have hGG : Gr W w4 := step_gr HG3.out HS4.out HN0.out hWO
     refine ⟨r, v', ?_, rfl, hGG, fun ns hns => ?_⟩
     ·show GuessR _ _ _ _ _
      unfold GuessR
      rw [← HRES.out, hrg]
      simpa using HR4.out
     ·have e := HN4.out ns hns
      have hlo := HL4.out
      rw [e] at hlo
      have hc := (show cutN len ≤ 3 * len by unfold cutN; split <;> omega)
      have hln : ns.length ≤ 3 * len := by simp at hlo; omega
      have hX4 := HX4.out
      rw [e, List.nil_append] at hX4
      obtain ⟨A2, c2, h1, h2, _⟩ := hX4.own.row (by omega)
      exact ⟨A2, c2, h1, h2, hln⟩
   | true =>
     rw [hrg] at HCO
     have hxne : xs ≠ [] := fun h => by rw [h] at hrg; simp at hrg
     go_wp2_with fail
     refine HCO.out.mono ?_
     rintro e w3 ⟨rfl, hg3⟩
     have HG3 := hiD hg3
     have HCL := hiD (clone2_call A c xs w3 (HR.out.mono fun _ _ _ => BoxAt.gr (G2.out.trans hg3)) len HL.out (by omega))
     clear hg3
     go_wp2_with fail
     refine HCL.out.mono ?_
     rintro e w4 ⟨hg4, A4, c4, rfl, hcl⟩
     obtain ⟨hc4, g4, rfl, hgl4, hH4⟩ := hcl hxne
     have HG4 := hiD hg4
     have HDEL := hiD (delete_call w4 g4 c4 xs hH4 len HL.out (by omega) hc4 hrg)
     clear hg4 hcl hH4
     go_wp2_with fail
     refine HDEL.out.mono ?_
     rintro e w5 ⟨c5, k5, rfl, hk5, hH5⟩
     have hg5 := hH5.to_gr HG4.out hgl4
     have HG5 := hiD (HG3.out.trans hg5)
     have HR5 := hiD (hH5.boxRow (by have := List.length_filter_le nring xs; have := HL.out; omega))
     have hk5l : k5 ≤ len := by have := List.length_filter_le nring xs; have := HL.out; omega
     have hX5 := HX.out.gr HG5.out
     obtain ⟨hc5, hf5⟩ := cell_of_box' hX5.box
     have nOB := lcc w5 _ hc5
     have HX5 := hiD hX5
     have HE5 := hiD (HE.out.gr HG5.out)
     have HK5 := hiD hk5
     have hB5 : B ≤ w5.heap.size := Nat.le_trans hB2 HG5.out.b.size
     have hg45 : W2.heap.size ≤ g4 := Nat.le_trans HG3.out.b.size hgl4
     have hg4l : g4 < w5.heap.size := hH5.nlt
     clear hg5 hH5 hX5 hk5
     go_wp2_with (at_builtin; refine wpList_nds rfl _ _ rfl B (.slice none 0 0) [] rfl (HX5.out.gr gw).own _ 0 _ [⟨bare 5, 0⟩] 1 rfl rfl (fun j u hu => (World.cell?_alloc_at _ _ _ _ (by go_simp)).trans (by simpa [ndc, bare] using hu)) (by simp) (by simp; omega) ?_; intro v6 w6 HO6 HS6; obtain ⟨g6, c6, hv6, _⟩ := HO6.out.form; subst hv6; obtain ⟨hbx, hX6, hS6⟩ := (HX5.out.gr gw).step HS6.out HO6.out; obtain ⟨hc6, hf6⟩ := cell_of_box' hbx; have HX6 := hiD hX6; have HS6 := hiD ((StepO.gr ((Gr.refl w5).alloc _) (.slice none 0 0)).trans hS6); have hE6 := HE5.out.step HS6.out HN5.out; have hca := hE6.a; have hcg := hE6.g; have HE6 := hiD hE6; have hBw6 : B ≤ (w6.setCell ⟨OB, 0, none⟩ (.slice (some ⟨g6, 0, none⟩) (0 + 1) c6)).heap.size := Nat.le_trans hB5 HS6.out.size; clear hbx hX6 hS6 HO6 hE6)
     generalize w6.setCell ⟨OB, 0, none⟩ (.slice (some ⟨g6, 0, none⟩) (0 + 1) c6) = W6 at HX6 HS6 HE6 hca hcg hBw6 hc6 hf6 ⊢
     obtain ⟨v6, hv6, HX6, HS6, hvo⟩ : ∃ v6, v6 = Value.slice (some ⟨g6, 0, none⟩) (0 + 1) c6 ∧ Hid (BoxO OB B W6 v6 [⟨bare 5, 0⟩]) ∧ Hid (StepO OB w5 W6 (.slice none 0 0) v6) ∧ True := ⟨_, rfl, HX6, HS6, trivial⟩
     have hR6 := boxRow_keep HR5.out (HS6.out.keep g4 hg4l (by omega) (by simp [Value.ownBlock]))
     have HGAP := hiD (fun (W7 : World) (h : Gr W6 W7) => gap_call s 20 sb W7 (HE6.out.gr h).sc (by omega) (by omega) (by omega))
     have HSPL := hiD (fun (W7 : World) (b : Nat) (h : Gr W6 W7) (hf : FrC W7 b (s * (20 : Int))) => split_call W7 _ c5 _ ac 90 _ (gapIs s 20) (ap_gap s 20 b W7 hf) (hR6.mono fun _ _ _ => BoxAt.gr h) (fun x hx => HG.out x ((List.mem_filter.1 hx).1)) k5 HK5.out (by omega))
     clear hv6 hR6
     have nca := lcc W6 _ hca
     have ncg := lcc W6 _ hcg
     refine free_grown [1, 2] [0, 3] [4, 5] [6, 7] (by kernel_rfl) (fun d _ _ _ _ h => by cases d <;> exact h) ?_
     simp only [List.filterMap_cons, List.filterMap_nil, List.getElem?_cons_succ, List.getElem?_cons_zero]
     repeat (refine wpPure_step (fun K hK => ?_); go_simp; refine hK _ ?_; clear hK K)
     refine wpPure_nil ?_
     refine wpTake_val rfl (.func (.func 91) #[] #[.pointer (some ⟨cb, 0, none⟩)]) (fun w' hg' => ?_) ?_
     ·have := hg'.cell hca
      go_simp
     refine wpTake_val rfl (.func (.func 89) #[] #[.pointer (some ⟨sb, 0, none⟩)]) (fun w' hg' => ?_) ?_
     ·have := hg'.cell hcg
      go_simp
     refine wpTake_nil ?_
     refine wpU_step rfl (fun K hK => ?_)
     go_simp
     refine (HGAP.out W6.drew (Gr.refl W6).drew).mono ?_
     rintro e w7 ⟨bb, rfl, hg7, hb7, hfr⟩
     have hw7 := (Gr.refl W6).drew.trans hg7
     have HG7 := hiD hw7
     refine hK.out _ _ hw7 ?_
     clear hK K hg7 hw7
     refine wpU_step rfl (fun K hK => ?_)
     go_simp
     refine (HSPL.out w7 bb HG7.out hfr).mono ?_
     rintro e w8 ⟨hg8, A', c', ys, hpm, hst, he, hpt⟩
     obtain ⟨pn, hpn⟩ : ∃ n, n = (scan ac (gapIs s 20) ys).length := ⟨_, rfl⟩
     rw [← hpn] at he
     subst he
     have hw8 := HG7.out.trans hg8
     have HG8 := hiD hw8
     have HPM := hiD hpm
     have HST := hiD hst
     have HPT := hiD hpt
     have HPN := hiD hpn
     refine hK.out _ _ hw8 ?_
     clear hK K hg8 hpm hst hpt hpn hw8 hfr
     refine wpU_nil ?_
     have hX8 := HX6.out.gr HG8.out
     have hE8 := HE6.out.gr HG8.out
     have hfl : ys.length = k5 := by rw [HPM.out.length_eq, HK5.out]
     have hAll := all_call OB B sb gb ab cb s 4 (cut_ok OB B sb gb ab cb s b1 b2 b3 4 (by omega)) w8 v6 _ A' pn c' (scan ac (gapIs s 20) ys) 1 (by omega) hE8 hX8 (Nat.le_trans hBw6 HG8.out.b.size)
      (fun W2 v2 hs2 => HPT.out W2 (fun k h1 h2 => hs2.keep k h2 (by have := HG7.out.b.size; omega) (fun e => by have := (HX6.out.own.lt _ e.symm).2; have := HG7.out.b.size; omega)))
      (fun p hp x hx => HG.out x (List.mem_filter.1 (HPM.out.mem_iff.1 (by rw [← scan_flat ac (gapIs s 20) ys]; exact List.mem_flatten.2 ⟨p, hp, hx⟩))).1)
      HPN.out.symm
      (by have h5 := parts_le _ (scan_ne ac (gapIs s 20) ys); rw [scan_flat, ← HPN.out] at h5; omega)
      (fun p hp => by
        have h1 : p.length ≤ ys.length := by
         conv => rhs; rw [← scan_flat ac (gapIs s 20) ys]
         obtain ⟨l1, l2, e⟩ := List.append_of_mem hp
         rw [e]; simp; omega
        omega)
      (by have h5 := allN_eq _ (scan_ne ac (gapIs s 20) ys); rw [scan_flat] at h5; simp; omega)
     have HALL := hiD hAll
     have HNL := hiD (show allN (scan ac (gapIs s 20) ys) ≤ 2 * len by have h5 := allN_eq _ (scan_ne ac (gapIs s 20) ys); rw [scan_flat] at h5; omega)
     clear hAll hX8 hE8 hfl hc6 hf6 hca hcg nca ncg hb7
     go_wp2_with (go_at_fn 91; refine HALL.out.mono ?_; rintro e w9 ⟨r, v9, out9, hr9, rfl, hX9, hS9, hl9, hn9⟩; obtain ⟨hc9, hf9⟩ := cell_of_box' hX9.box; have nOB9 := lcc w9 _ hc9; have HR9 := hiD hr9; have HX9 := hiD hX9; have HS9 := hiD hS9; have HL9 := hiD hl9; have HN9 := hiD hn9; clear hr9 hX9 hS9 hl9 hn9)
     go_ret2
     have hGG : Gr W w9 := step_gr (G2.out.trans HG5.out) (HS6.out.trans ((StepO.gr HG8.out v6).trans HS9.out)) HN0.out hWO
     refine ⟨r.map (⟨bare 5, 0⟩ :: ·), v9, ?_, by cases r <;> rfl, hGG, fun ns hns => ?_⟩
     ·show GuessR _ _ _ _ _
      unfold GuessR
      rw [← HRES.out, hrg]
      exact ⟨_, r, ⟨ys, HPM.out, HST.out, rfl⟩, HR9.out, rfl⟩
     ·cases r with
      | none => cases hns
      | some q =>
        cases hns
        have e := HN9.out q rfl
        have hlo := HL9.out
        have hnl := HNL.out
        rw [e] at hlo
        have hln : (⟨bare 5, 0⟩ :: q : List Nd).length ≤ 3 * len := by simp at hlo ⊢; omega
        have hX9 := HX9.out
        rw [e, List.singleton_append] at hX9
        obtain ⟨A2, c2, h1, h2, _⟩ := hX9.own.row (by omega)
        exact ⟨A2, c2, h1, h2, hln⟩
end Go.Proofs.OGW
namespace Go.Proofs.OGW
open Go.RowKit Go.Sort OG Go.Shelf Go.PlainAid
abbrev nilS : Value := .slice none 0 0
abbrev heldR : Value → Option (DataW Value × List MemPlace) := fun v => some (.held v, [])
structure LinesM (w : World) (b base m : Nat) (vals : Int → Value) (L : Int → List PB) : Prop where
 own : ∃ n D, w.ownsMap Tryz.prog 3 heldR b n D ∧ n ≤ m ∧ Maps.IsMap D ∧ ∀ k : Int, D.atKey (.int .i64 k) (.held nilS) = .held (vals k)
 row : ∀ k, OwnX w base (vals k) (L k)
 apart : ∀ j k, j ≠ k → (vals j).ownBlock = none ∨ (vals j).ownBlock ≠ (vals k).ownBlock
 bb : b < base
theorem lines_made (w : World) : LinesM (w.alloc (.map #[] 0)) w.heap.size (w.heap.size + 1) 0 (fun _ => nilS) (fun _ => []) :=
 ⟨⟨0, _, World.ownsMap_made w Tryz.prog 3 _, Nat.le_refl _, Maps.isMap_empty, fun k => rfl⟩, fun _ => World.ownsRow_nil _ _ _ _, fun _ _ _ => .inl rfl, Nat.lt_succ_self _⟩
theorem LinesM.lt {w : World} {b base m : Nat} {vals : Int → Value} {L : Int → List PB} (h : LinesM w b base m vals L) : b < w.heap.size := by
 obtain ⟨n, D, h1, _⟩ := h.own
 exact h1.lt
theorem LinesM.low {w : World} {b base m : Nat} {vals : Int → Value} {L : Int → List PB} (h : LinesM w b base m vals L) : ∀ k j, (vals k).ownBlock = some j → base ≤ j ∧ j < w.heap.size := fun k j e => (h.row k).lt j e
theorem LinesM.keep {w w' : World} {b base m : Nat} {vals : Int → Value} {L : Int → List PB} {row : Option Nat} (h : LinesM w b base m vals L) (hg : w.grownBy w' row) (hr : ∀ k, row = some k → k ≠ b ∧ ∀ j, (vals j).ownBlock ≠ some k) : LinesM w' b base m vals L := by
 obtain ⟨n, D, h1, h2⟩ := h.own
 refine ⟨⟨n, D, h1.kept hg (fun e => (hr b e.symm).1 rfl), h2⟩, fun k => (h.row k).kept hg ?_, h.apart, h.bb⟩
 cases hv : (vals k).ownBlock with
 | none => exact .inl rfl
 | some j => exact .inr fun e => (hr j e.symm).2 k hv
theorem LinesM.gr {w w' : World} {b base m : Nat} {vals : Int → Value} {L : Int → List PB} (h : LinesM w b base m vals L) (hg : Gr w w') : LinesM w' b base m vals L := h.keep (Gr.by hg : w.grownBy w' none) (fun k e => by cases e)
theorem key3 {k : Int} (h0 : -1000000 ≤ k) (h1 : k ≤ 1000000) : keyOf Tryz.prog 3 (.int .i64 k) = some (.int .i64 k) := by
 have e1 : IntKind.i64.min = -9223372036854775808 := by decide
 have e2 : IntKind.i64.max = 9223372036854775807 := by decide
 exact Maps.keyOf_int_mk Tryz.underlying3 (by simp [Lit.wf, e1, e2]; omega)
theorem LinesM.look {w : World} {b base m : Nat} {vals : Int → Value} {L : Int → List PB} (h : LinesM w b base m vals L) {k : Int} (h0 : -1000000 ≤ k) (h1 : k ≤ 1000000) :
 (Instr.lookup 81 (.map (some b)) (.int .i64 k) false).run Tryz.prog w = .ok (vals k) w := by
 obtain ⟨n, D, o1, o2, o3, o4⟩ := h.own
 obtain ⟨v, ps, hrun, hv⟩ := o1.lookup (Maps.int_keyed Tryz.underlying3) Tryz.underlying81 (Tryz.zeroValue25 w) (zd := .held nilS) (zp := []) rfl (key3 h0 h1)
 rw [o4 k] at hv
 cases hv
 exact hrun
theorem LinesM.put {w w1 : World} {b base m : Nat} {vals : Int → Value} {L : Int → List PB} (h : LinesM w b base m vals L) (hm : m ≤ 1000000) {k : Int} (h0 : -1000000 ≤ k) (h1 : k ≤ 1000000) {v' : Value} {x : PB}
 (hs : RowStep w w1 (vals k) v') (ho : OwnX w1 base v' (L k ++ [x])) :
 ∃ w2, (Instr.mapUpdate 81 (.map (some b)) (.int .i64 k) v').run Tryz.prog w1 = .ok () w2 ∧ LinesM w2 b base (m + 1) (fun j => if j = k then v' else vals j) (fun j => if j = k then L k ++ [x] else L j) ∧ w1.grownBy w2 (some b) ∧ w2.drawn = w1.drawn := by
 obtain ⟨n, D, o1, o2, o3, o4⟩ := h.own
 have hlow := h.low
 have hbb := h.bb
 have hlt := h.lt
 have hbk : some b ≠ (vals k).ownBlock := fun e => by have := (hlow k b e.symm).1; omega
 have o5 := o1.kept hs.by' hbk
 obtain ⟨w2, hrun, r1, r2⟩ := o5.update (Maps.int_keyed Tryz.underlying3) Tryz.underlying81 (by unfold maxLen; omega) (val := v') (d := .held v') (ps := []) (key3 h0 h1) rfl
 have hrow1 : ∀ j, j ≠ k → OwnX w1 base (vals j) (L j) := fun j hj => (h.row j).kept hs.by' (h.apart j k hj)
 have apart1 : ∀ j, j ≠ k → (vals j).ownBlock = none ∨ (vals j).ownBlock ≠ v'.ownBlock := by
  intro j hj
  cases hv : (vals j).ownBlock with
  | none => exact .inl rfl
  | some g =>
    right
    rcases hs.loc with e | e
    ·rw [e]
     rcases h.apart j k hj with e2 | e2
     ·rw [hv] at e2; cases e2
     ·rw [← hv]; exact e2
    ·intro e2
     have := e g e2.symm
     have := (hlow j g hv).2
     omega
 refine ⟨w2, hrun, ⟨⟨n + 1, _, r1, by omega, o3.put _ _, fun j => ?_⟩, fun j => ?_, fun i j hij => ?_, hbb⟩, r2, ?_⟩
 ·by_cases hj : j = k
  ·subst hj
   rw [Maps.atKey_put_same o3 (by trivial), if_pos rfl]
  ·rw [Maps.atKey_put_other (by simpa using hj), o4 j, if_neg hj]
 ·have hnb : ∀ {v : Value} {ps : List PB}, OwnX w1 base v ps → v.ownBlock = none ∨ v.ownBlock ≠ some b := by
   intro v ps hv
   cases hvb : v.ownBlock with
   | none => exact .inl rfl
   | some g => exact .inr fun e => by cases e; have := (hv.lt _ hvb).1; omega
  by_cases hj : j = k
  ·simp only [hj, if_true]
   exact ho.kept r2 (hnb ho)
  ·simp only [hj, if_false]
   exact (hrow1 j hj).kept r2 (hnb (hrow1 j hj))
 ·by_cases hi : i = k
  ·have hj : j ≠ k := fun e => hij (hi.trans e.symm)
   simp only [hi, hj, if_true, if_false]
   rcases apart1 j hj with e | e
   ·cases hv : v'.ownBlock with
    | none => exact .inl rfl
    | some g => exact .inr (by rw [e]; simp)
   ·exact .inr (Ne.symm e)
  ·by_cases hj : j = k
   ·simp only [hi, hj, if_true, if_false]
    exact apart1 i hi
   ·simp only [hi, hj, if_false]
    exact h.apart i j hij
 ·obtain ⟨es, clock, hb, F, hs2, rfl⟩ := o5
  obtain ⟨es', clock', hrun', _⟩ := Maps.fit_store (R' := heldR) (val := v') (Maps.int_keyed Tryz.underlying3) Tryz.underlying81 hb F (by unfold maxLen; omega) (fun _ _ _ _ hz => hz) (key3 h0 h1) rfl
  rw [hrun'] at hrun
  simp only [Result.ok.injEq, true_and] at hrun
  rw [← hrun]
  rfl
end Go.Proofs.OGW
