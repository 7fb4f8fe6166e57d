import Derived.Test.YtmejcmollpbcfaaGreatP45
set_option linter.all false
namespace Go.Proofs.OGW
open Go.RowKit Go.Sort OG Go.Shelf Go.PlainAid
theorem cut_succ (OB B sb gb ab cb : Nat) (s : Rat) (hs1 : -2147483647 ≤ s.num) (hs2 : s.num ≤ 2147483647) (hs3 : s.den ≤ 1000000000) (f : Nat) (hf : f ≤ 4) (hCut : CutOk OB B sb gb ab cb s f) : CutOk OB B sb gb ab cb s (f + 1) := by
 intro W v out A len c xs d hd hE hX hB hr hg hl hlen ho
 have hd0 : 0 ≤ d := by omega
 match xs, hr, hg, hl with
 | [], hr, hg, hl =>
   have := cut_div OB B sb gb ab cb s hs1 hs2 hs3 f hCut W v out A len c [] d hd hd0 hE hX hB hr hg hl hlen ho (by simp at hl; omega) (fun a b e => by cases e)
   exact this
 | [b], hr, hg, hl =>
   obtain rfl : len = 1 := by simpa using hl.symm
   exact cut_one OB B sb gb ab cb s f W v out A c b d hd hd0 hX hB hr (by unfold cutN at ho; simpa using ho)
 | [a, b], hr, hg, hl =>
   obtain rfl : len = 2 := by simpa using hl.symm
   have ha := hg a (by simp)
   have hb := hg b (by simp)
   have ho3 : out.length + 3 ≤ 1000000 := by unfold cutN at ho; simpa using ho
   cases h1 : holdsP b a
   ·cases h2 : holdsP a b
    ·have := cut_div OB B sb gb ab cb s hs1 hs2 hs3 f hCut W v out A 2 c [a, b] d hd hd0 hE hX hB hr hg hl hlen ho (by omega) (fun x y e => by cases e; exact ⟨h1, h2⟩)
     have e : CutR s (f + 1) d [a, b] = DivR (CutR s f (d + 1)) s d [a, b] := by
      funext r
      simp only [CutR, h1, h2, Bool.false_eq_true, if_false]
     rw [e]
     exact this
    ·exact cut_two OB B sb gb ab cb s f W v out A c a b d hd hd0 hX hB hr ho3 ha hb h1 h2
   ·exact cut_swap OB B sb gb ab cb s f W v out A c a b d hd hd0 hX hB hr ho3 ha hb h1
 | a :: b :: x :: l, hr, hg, hl =>
   have := cut_div OB B sb gb ab cb s hs1 hs2 hs3 f hCut W v out A len c (a :: b :: x :: l) d hd hd0 hE hX hB hr hg hl hlen ho (by simp at hl; omega) (fun p q e => by cases e)
   exact this
theorem cut_ok (OB B sb gb ab cb : Nat) (s : Rat) (hs1 : -2147483647 ≤ s.num) (hs2 : s.num ≤ 2147483647) (hs3 : s.den ≤ 1000000000) : ∀ f, f ≤ 5 → CutOk OB B sb gb ab cb s f
 | 0, _ => cut_zero OB B sb gb ab cb s
 | f + 1, h => cut_succ OB B sb gb ab cb s hs1 hs2 hs3 f (by omega) (cut_ok OB B sb gb ab cb s hs1 hs2 hs3 f (by omega))
end Go.Proofs.OGW
namespace Go.Proofs.OGW
open Go.RowKit Go.Sort OG Go.Shelf Go.PlainAid
attribute [local go_sem] sA fv sB sG sC Nat.zero_add
attribute [local go_sem ↓] ld66 ld51 st66 st51
def looseB (all : List PB) (b : PB) : Bool := !(decide (b.lf.kind = 5) || all.any fun a => holdsP a b)
def wideOf (most : Int) (l : List Sg) (b : PB) : Option Int :=
 if b.lf.kind = 1 then (if (sizeP most l b.lf.sign b.lf.turn).2.2 = 0 then some (4 * (sizeP most l b.lf.sign b.lf.turn).1) else none) else some (12 * min (max b.lf.mx 0) 9)
def scaleB (most : Int) (l : List Sg) (b : PB) : Option Rat :=
 match wideOf most l b with
 | none => none
 | some n => if n = 0 then none else some (b.w * ((1 : Int) : Rat) / ((n.toNat : Nat) : Rat))
def scaleOfP (most : Int) (l : List Sg) (all : List PB) : List PB → Option Rat
 | [] => none
 | b :: r => if looseB all b then scaleB most l b else scaleOfP most l all r
theorem sizeP_bd (most : Int) (l : List Sg) (sg tn : Int) : 0 ≤ (sizeP most l sg tn).1 ∧ (sizeP most l sg tn).1 ≤ 12 ∧ 0 ≤ (sizeP most l sg tn).2.1 ∧ (sizeP most l sg tn).2.1 ≤ 12 ∧ ((sizeP most l sg tn).2.2 = 0 → 1 ≤ (sizeP most l sg tn).1 ∧ 1 ≤ (sizeP most l sg tn).2.1) := by
 have key : ∀ (l : List Sg) (seen : List ByteArray), signsE most seen l = 0 → ∀ s ∈ l, sizeBad s = false := by
  intro l
  induction l with
  | nil => intro _ _ s hs; cases hs
  | cons t r ih =>
    intro seen h s hs
    unfold signsE at h
    split at h
    ·cases h
    split at h
    ·cases h
    rename_i hsz
    split at h
    ·cases h
    split at h
    ·rcases List.mem_cons.1 hs with rfl | hs
     ·simpa using hsz
     ·exact ih _ h s hs
    ·rename_i hv; exact absurd h hv
 unfold sizeP
 by_cases h0 : listE most l = 0
 ·rw [if_neg (by simpa using h0)]
  by_cases h1 : sg < 0
  ·rw [if_pos h1]; simp
  ·rw [if_neg h1]
   cases hs : l[sg.toNat]? with
   | none => simp
   | some s =>
     have hb : sizeBad s = false := by
      unfold listE at h0
      split at h0
      ·cases h0
      split at h0
      ·cases h0
      exact key l [] h0 s (List.mem_of_getElem? hs)
     unfold sizeBad at hb
     simp only [Bool.or_eq_false_iff, decide_eq_false_iff_not] at hb
     by_cases h2 : tn < 0 ∨ 3 < tn
     ·simp [h2]
     ·simp only [h2, if_false]
      split <;> simp <;> omega
 ·rw [if_pos h0]
  simp [h0]
def ScalePost (W : World) (r : Option Rat) (e : Ending) (W' : World) : Prop :=
 ∃ n d : Int, e = .returned (.tuple #[.agg #[.int .i64 n, .int .i64 d], .bool r.isSome]) ∧ (∀ s, r = some s → n = s.num ∧ d = (s.den : Int)) ∧ Gr W W'
theorem scale_end {W W4 : World} {rb : Nat} {n d x y : Int} {res : Option Rat} {t : Array Value} (hg : Gr W W4) (hrb : W.heap.size ≤ rb) (h0 : W4.cell? ⟨rb, 0, none⟩ = some (.int .i64 x)) (h1 : W4.cell? ⟨rb, 1, none⟩ = some (.int .i64 y))
 (t4 : t.getD 4 undef = .pointer (some ⟨rb, 0, none⟩)) (t5 : t.getD 5 undef = .bool res.isSome) (hs : ∀ s, res = some s → n = s.num ∧ d = (s.den : Int)) :
 bodyPost Tryz.prog Tryz.f88 (ScalePost W res) Exit.ret { tmps := t, defers := [] } ((W4.setCell ⟨rb, 0, none⟩ (.int .i64 n)).setCell ⟨rb, 1, none⟩ (.int .i64 d)) := by
 refine bodyPost_ret (res_cell_t Tryz.isAgg64 Tryz.sizeOf64 Tryz.results88 t4 t5 (v := .agg #[.int .i64 n, .int .i64 d]) (rowV_of rfl fun j u hu => ?_)) rfl ⟨n, d, rfl, hs, (hg.setCell (p := ⟨rb, 0, none⟩) hrb _).setCell (p := ⟨rb, 1, none⟩) hrb _⟩
 rcases j with _ | _ | j
 ·simp at hu; subst hu
  exact (World.cell?_setCell_other _ _ _ _ (by simp)).trans (World.cell?_setCell_same' _ _ _ (by rw [h0]; rfl))
 ·simp at hu; subst hu
  exact World.cell?_setCell_same' _ _ _ (by rw [World.cell?_setCell_other _ _ _ _ (by simp), h1]; rfl)
 ·simp at hu
theorem tZ23 {P : Prop} (h : P := by
 go_wp2_with (go_at_call 39; refine (HT3.out _).mono ?_; rintro e w6 ⟨rfl, hg6⟩; have HG6 := hiD hg6; have s0' := hg6.cell s0; have s1' := hg6.cell s1; have g0' := (hg6.b.frozen (p := ⟨W.heap.size + 1, 0, none⟩) p1).trans g0; have g1' := (hg6.b.frozen (p := ⟨W.heap.size + 1, 1, none⟩) p1).trans g1; have p1' := lcc w6 _ s0'; clear hg6)
 all_goals exact scale_end (HGW.out.trans HG6.out) (Nat.le_add_right _ _) s0' s1' rfl (by rw [HR6.out]; rfl) (fun s hs => by rw [HR6.out] at hs; cases hs; exact ⟨rfl, rfl⟩)) : P := h
theorem tZ109 {P : Prop} (h : P := by
 all_goals exact scale_end HGW.out (Nat.le_add_right _ _) s0 s1 rfl (by rw [HR4.out]; rfl) (fun s hs => by rw [HR4.out] at hs; cases hs)) : P := h
set_option maxRecDepth 100000 in
set_option maxHeartbeats 8000000 in
theorem scaleOf_call (most : Int) (SA : Option Addr) (sn sc : Nat) (l : List Sg) (A : Option Addr) (len c : Nat) (xs : List PB) (W : World) (hs : SgRow W SA l) (hsl : l.length = sn) (hsb : sn ≤ 1000000) (hr : BoxRow W A (xs.map raw)) (hg : ∀ x ∈ xs, good x = true) (hl : xs.length = len) (hlen : len ≤ 1000000) :
 Calls Tryz.prog 88 #[lv most SA sn sc, .slice A len c] W (ScalePost W (scaleOfP most l xs xs)) := by
 have HS := hiD hs
 have HSL := hiD hsl
 have HR := hiD hr
 have HG := hiD hg
 have HL := hiD hl
 obtain ⟨res, hres⟩ : ∃ res, res = scaleOfP most l xs xs := ⟨_, rfl⟩
 rw [← hres]
 have HRES := hiD hres
 have eg := ent_of (f := 144) Tryz.func144 (by kernel_rfl) rfl
 clear hs hsl hr hg hl hres
 go_enter Tryz.func88, Tryz.ntmps88
 go_upto_region 2 with fail
 have m0 : ((W.alloc (.cells #[.int .i64 most, .slice SA sn sc] 24)).alloc (.cells #[.int .i64 0, .int .i64 0] 64)).cell? ⟨W.heap.size, 0, none⟩ = some (.int .i64 most) := by go_simp
 have m1 : ((W.alloc (.cells #[.int .i64 most, .slice SA sn sc] 24)).alloc (.cells #[.int .i64 0, .int .i64 0] 64)).cell? ⟨W.heap.size, 1, none⟩ = some (.slice SA sn sc) := by go_simp
 have m2 : ((W.alloc (.cells #[.int .i64 most, .slice SA sn sc] 24)).alloc (.cells #[.int .i64 0, .int .i64 0] 64)).heap[W.heap.size + 1]? = some (.cells #[.int .i64 0, .int .i64 0] 64 (0, 0)) := by
  have := heap_alloc_new (W.alloc (.cells #[.int .i64 most, .slice SA sn sc] 24)) (.cells #[.int .i64 0, .int .i64 0] 64)
  simpa using this
 have g2 : Gr W ((W.alloc (.cells #[.int .i64 most, .slice SA sn sc] 24)).alloc (.cells #[.int .i64 0, .int .i64 0] 64)) := ((Gr.refl W).alloc _).alloc _
 generalize (W.alloc (.cells #[.int .i64 most, .slice SA sn sc] 24)).alloc (.cells #[.int .i64 0, .int .i64 0] 64) = W2 at m0 m1 m2 g2 ⊢
 have M0 := hiD m0
 have M1 := hiD m1
 have M2 := hiD m2
 have G2 := hiD g2
 clear m0 m1 m2 g2
 go_loopw [14] (fun i wr => ∃ k : Nat, i = .int .i64 k ∧ k ≤ len ∧ Gr W2 wr ∧ Hid (res = scaleOfP most l xs (xs.drop k))) (fun i _ => len - (intOf i).toNat)
 case atStart => exact ⟨0, rfl, Nat.zero_le _, Gr.refl _, HRES.out⟩
 case round =>
  obtain ⟨k, rfl, hk, hg, HRK⟩ := hrel
  have HGR := hiD hg
  have c0 := hg.cell M0.out
  have c1 := hg.cell M1.out
  have hbx : wr.heap[W.heap.size + 1]? = some (.cells #[.int .i64 0, .int .i64 0] 64 (0, 0)) := (hg.b.block _ (Array.getElem?_eq_some_iff.1 M2.out).1).trans M2.out
  have r0 := cell_of_row wr (W.heap.size + 1) 0 _ 64 (0, 0) hbx
  have r1 := cell_of_row wr (W.heap.size + 1) 1 _ 64 (0, 0) hbx
  have f0 := frozen_of_row wr (W.heap.size + 1) 0 _ 64 hbx
  have f1 := frozen_of_row wr (W.heap.size + 1) 1 _ 64 hbx
  have n0 := lcc wr _ c0
  have n1 := lcc wr _ r0
  clear hg hbx
  simp only [List.getElem?_toArray, List.getElem?_cons_zero, List.getElem?_cons_succ] at r0 r1
  by_cases hlt : k < len
  ·obtain ⟨b, hb⟩ : ∃ b, xs[k]? = some b := ⟨_, gE (by rw [HL.out]; exact hlt)⟩
   have hrow := (HR.out.mono fun _ _ _ => BoxAt.gr (G2.out.trans HGR.out))
   obtain ⟨blk, off, rfl, hbr⟩ := hrow.2 k (raw b) (by simp [hb])
   have hbr' : rowV 15 wr blk (off + k * 15) = some (pv b) := hbr
   have nb := lcc wr _ (rowV_cell hbr' 0 _ rfl)
   have HBR := hiD hbr'
   have hgb := HG.out b (List.mem_of_getElem? hb)
   have hdrop : xs.drop k = b :: xs.drop (k + 1) := by
    rw [List.drop_eq_getElem_cons (gO hb).1, (gO hb).2]
   have hrk : res = if looseB xs b then scaleB most l b else scaleOfP most l xs (xs.drop (k + 1)) := by rw [HRK.out, hdrop, scaleOfP]
   have HRK2 := hiD hrk
   have HGB := hiD hgb
   have hd : decide ((k : Int) < (len : Int)) = true := by simp; omega
   have tk : ((k : Nat) : Int).toNat = k := by omega
   have HROW := hiD hrow
   clear hb hbr hdrop hrk hgb hrow HRK
   by_cases h5 : b.lf.kind = 5
   ·have e5 : (b.lf.kind == 5) = true := by simp [h5]
    have HN := hiD (HRK2.out.trans (if_neg (by simp [looseB, h5])))
    clear h5
    go_wp2_with fail
    go_roundw
    case rel => exact ⟨k + 1, by go_num, by omega, HGR.out.trans gw, HN.out⟩
    case measure => simp [intOf]; omega
   have e5 : (b.lf.kind == 5) = false := by simp [h5]
   have K5 := hiD h5
   clear h5
   have hlb : looseB xs b = !(xs.any fun a => holdsP a b) := by simp [looseB, K5.out]
   have HCT := hiD (fun (W3 : World) (nb2 : Nat) (hw3 : Gr wr W3) (hb3 : rowV 15 W3 nb2 0 = some (pv b)) => contains_call W3 144 #[.pointer (some ⟨nb2, 0, none⟩)] (fun x => good x = true) (fun a => holdsP a b) ⟨eg, fun x w' hx hg' => scaleOf1_call x b (good_pl hx) (good_pl HGB.out) nb2 w' (rowV_mono hg' hb3 rfl)⟩ (some ⟨blk, off, none⟩) c xs W3 (Gr.refl _) (HROW.out.mono fun _ _ _ => BoxAt.gr hw3) HG.out len HL.out hlen)
   have HROWB := hiD (rowV_of (K := 15) (w := wr.alloc (.cells (bcells (raw b)).toArray 66)) (n := wr.heap.size) (o := 0) (cs := (bcells (raw b)).toArray) rfl (fun j u hu => (World.cell?_alloc_at _ _ _ _ rfl).trans (by rw [Nat.zero_add]; exact hu)))
   cases hany : (xs.any fun a => holdsP a b)
   ·rw [hany] at HCT hlb
    have HLB := hiD (show looseB xs b = true by rw [hlb]; rfl)
    have HRK3 := hiD (HRK2.out.trans (if_pos HLB.out))
    clear hany hlb
    go_upto_region 5 with (go_at_call 99; refine (HCT.out _ _ ((Gr.refl wr).alloc _) HROWB.out).mono ?_; rintro e w3 ⟨rfl, hg3⟩; have HG3b := hiD hg3; have HG3 := hiD (((Gr.refl wr).alloc _).trans hg3); clear hg3)
    have hb3 := rowV_mono (show Gr (wr.alloc (.cells (bcells (raw b)).toArray 66)) w3 from HG3b.out) HROWB.out rfl
    have k0 := rowV_cell hb3 0 _ rfl
    have k1 := rowV_cell hb3 1 _ rfl
    have k2 := rowV_cell hb3 2 _ rfl
    have k6 := rowV_cell hb3 6 _ rfl
    have k11 := rowV_cell hb3 11 _ rfl
    have k12 := rowV_cell hb3 12 _ rfl
    simp only [Nat.zero_add] at k0 k1 k2 k6 k11 k12
    have HG := hiD HG3.out
    have q0 := HG3.out.cell c0
    have q1 := HG3.out.cell c1
    have s0 := HG3.out.cell r0
    have s1 := HG3.out.cell r1
    have g0 : w3.frozen? ⟨W.heap.size + 1, 0, none⟩ = false := (HG3.out.b.frozen (p := ⟨W.heap.size + 1, 0, none⟩) n1).trans f0
    have g1 : w3.frozen? ⟨W.heap.size + 1, 1, none⟩ = false := (HG3.out.b.frozen (p := ⟨W.heap.size + 1, 1, none⟩) n1).trans f1
    have p0 := lcc w3 _ q0
    have p1 := lcc w3 _ s0
    have p2 := lcc w3 _ k0
    have HGW := hiD (G2.out.trans (HGR.out.trans HG3.out))
    have hvw : vld b.w = true := (good_pl HGB.out).w
    have hbd := vld_bd hvw
    clear c0 c1 r0 r1 f0 f1 n0 n1 nb hb3 HCT hvw HG3 HG3b
    have HT := fun (n : Int) (hn : 0 < n) (hn1 : n ≤ 200) => show Ans 39 #[fv b.w, .int .i64 1, .int .i64 n] (fv (b.w * ((1 : Int) : Rat) / ((n.toNat : Nat) : Rat))) from by
     have := times_call b.w 1 n.toNat (by omega) (by omega) (by omega) (by
      have : b.w.den * n.toNat ≤ 32768 * 200 := Nat.mul_le_mul hbd.2.2 (by omega)
      omega)
     rw [show ((n.toNat : Nat) : Int) = n by omega] at this
     exact this
    by_cases h1 : b.lf.kind = 1
    ·have e1 : (b.lf.kind == 1) = true := by simp [h1]
     have hsz := sizeP_bd most l b.lf.sign b.lf.turn
     have hsc : ∀ W5, Gr W W5 → _ := fun W5 h5 => signSize_call most SA sc l b.lf.sign b.lf.turn W5 (HS.out.gr h5) sn HSL.out hsb
     have HSC := hiD hsc
     have hsb2 : scaleB most l b = if (sizeP most l b.lf.sign b.lf.turn).2.2 = 0 then (if 4 * (sizeP most l b.lf.sign b.lf.turn).1 = 0 then none else some (b.w * ((1 : Int) : Rat) / (((4 * (sizeP most l b.lf.sign b.lf.turn).1).toNat : Nat) : Rat))) else none := by
      unfold scaleB wideOf
      rw [if_pos h1]
      by_cases hz : (sizeP most l b.lf.sign b.lf.turn).2.2 = 0 <;> simp [hz]
     have HR3 := hiD (HRK3.out.trans hsb2)
     obtain ⟨⟨zw, zh, ze⟩, hz⟩ : ∃ z, z = sizeP most l b.lf.sign b.lf.turn := ⟨_, rfl⟩
     rw [← hz] at HSC HR3 hsz
     simp only [tup3] at HSC
     simp only at HR3 hsz
     clear hsc hsb2 hz h1
     by_cases hze : ze = 0
     ·subst hze
      have hzw := hsz.2.2.2.2 rfl
      have HR4 := hiD (HR3.out.trans ((if_pos rfl).trans (if_neg (by omega))))
      have HT2 := hiD (HT (4 * zw) (by omega) (by omega))
      have z4 : ((4 * zw : Int) == 0) = false := by simp; omega
      obtain ⟨sc0, hsc0⟩ : ∃ sc0, sc0 = b.w * ((1 : Int) : Rat) / (((4 * zw).toNat : Nat) : Rat) := ⟨_, rfl⟩
      rw [← hsc0] at HT2 HR4
      clear HT HR3 hsc0
      go_wp2_with (first
       | (go_at_call 145; refine (HSC.out _ HGW.out).mono ?_; rintro e w5 ⟨rfl, hg5⟩; have HG5 := hiD hg5; have k11' := hg5.cell k11; have k12' := hg5.cell k12; have s0' := hg5.cell s0; have s1' := hg5.cell s1; have g0' := (hg5.b.frozen (p := ⟨W.heap.size + 1, 0, none⟩) p1).trans g0; have g1' := (hg5.b.frozen (p := ⟨W.heap.size + 1, 1, none⟩) p1).trans g1; have p1' := lcc w5 _ s0'; have p2' := lcc w5 _ k11'; clear hg5)
       | (go_at_call 39; refine (HT2.out _).mono ?_; rintro e w6 ⟨rfl, hg6⟩; have HG6 := hiD hg6; have s0' := hg6.cell s0'; have s1' := hg6.cell s1'; have g0' := (hg6.b.frozen (p := ⟨W.heap.size + 1, 0, none⟩) p1').trans g0'; have g1' := (hg6.b.frozen (p := ⟨W.heap.size + 1, 1, none⟩) p1').trans g1'; have p1' := lcc w6 _ s0'; clear hg6))
      all_goals exact scale_end (HGW.out.trans (HG5.out.trans HG6.out)) (Nat.le_add_right _ _) s0' s1' rfl (by rw [HR4.out]; rfl) (fun s hs => by rw [HR4.out] at hs; cases hs; exact ⟨rfl, rfl⟩)
     ·have HR4 := hiD (HR3.out.trans (if_neg hze))
      have z4 : (ze != 0) = true := by simp [hze]
      clear HT HR3 hze
      go_wp2_with (go_at_call 145; refine (HSC.out _ HGW.out).mono ?_; rintro e w5 ⟨rfl, hg5⟩; have HG5 := hiD hg5; have s0' := hg5.cell s0; have s1' := hg5.cell s1; have g0' := (hg5.b.frozen (p := ⟨W.heap.size + 1, 0, none⟩) p1).trans g0; have g1' := (hg5.b.frozen (p := ⟨W.heap.size + 1, 1, none⟩) p1).trans g1; have p1' := lcc w5 _ s0'; clear hg5)
      all_goals exact scale_end (HGW.out.trans HG5.out) (Nat.le_add_right _ _) s0' s1' rfl (by rw [HR4.out]; rfl) (fun s hs => by rw [HR4.out] at hs; cases hs)
    ·have e1 : (b.lf.kind == 1) = false := by simp [h1]
     have hsb2 : scaleB most l b = if 12 * min (max b.lf.mx 0) 9 = 0 then none else some (b.w * ((1 : Int) : Rat) / (((12 * min (max b.lf.mx 0) 9).toNat : Nat) : Rat)) := by
      unfold scaleB wideOf
      rw [if_neg h1]
     have HR3 := hiD (HRK3.out.trans hsb2)
     clear h1 hsb2
     obtain ⟨mx, hmx⟩ : ∃ mx, mx = b.lf.mx := ⟨_, rfl⟩
     rw [← hmx] at HR3
     have k6' : w3.cell? ⟨wr.heap.size, 6, none⟩ = some (.int .i64 mx) := by rw [hmx]; exact k6
     have HR3c := 0
     clear k6 hmx
     have hcase : mx < 0 ∨ mx = 0 ∨ (0 < mx ∧ mx ≤ 9) ∨ 9 < mx := by omega
     rcases hcase with h1 | rfl | ⟨h1, h2⟩ | h1
     ·have HR4 := hiD (HR3.out.trans (if_pos (by omega)))
      clear HT HR3 HR3c
      have q1' : ¬ (9 : Int) < 0 := by omega
      go_wp2_with fail
      exact tZ109
     ·have HR4 := hiD (HR3.out.trans (if_pos (by omega)))
      clear HT HR3 HR3c
      skip
      go_wp2_with fail
      exact tZ109
     ·have HR4 := hiD (HR3.out.trans (if_neg (by omega)))
      have hval : 12 * min (max mx 0) 9 = 12 * mx := by omega
      have HT2 := HT (12 * mx) (by omega) (by omega)
      have hr4 := HR4.out
      rw [hval] at hr4
      have HR5 := hiD hr4
      have z4 : ((12 * mx : Int) == 0) = false := by simp; try omega
      obtain ⟨sc0, hsc0⟩ : ∃ sc0, sc0 = b.w * ((1 : Int) : Rat) / (((12 * mx : Int).toNat : Nat) : Rat) := ⟨_, rfl⟩
      rw [← hsc0] at HT2 hr4
      have HT3 := hiD HT2
      have HR6 := hiD hr4
      clear HT HR3 hsc0 hval HT2 hr4 HR4 HR5 HR3c
      have q1' : ¬ mx < 0 := by omega
      have q2' : ¬ 9 < mx := by omega
      exact tZ23
     ·have HR4 := hiD (HR3.out.trans (if_neg (by omega)))
      have hval : 12 * min (max mx 0) 9 = 108 := by omega
      have HT2 := HT (108) (by omega) (by omega)
      have hr4 := HR4.out
      rw [hval] at hr4
      have HR5 := hiD hr4
      have z4 : ((108 : Int) == 0) = false := by simp; try omega
      obtain ⟨sc0, hsc0⟩ : ∃ sc0, sc0 = b.w * ((1 : Int) : Rat) / (((108 : Int).toNat : Nat) : Rat) := ⟨_, rfl⟩
      rw [← hsc0] at HT2 hr4
      have HT3 := hiD HT2
      have HR6 := hiD hr4
      clear HT HR3 hsc0 hval HT2 hr4 HR4 HR5 HR3c
      have q1' : ¬ mx < 0 := by omega
      exact tZ23
   ·rw [hany] at HCT hlb
    have HN := hiD (HRK2.out.trans (if_neg (by rw [hlb]; decide)))
    clear hany hlb
    go_wp2_with (go_at_call 99; refine (HCT.out _ _ ((Gr.refl wr).alloc _) HROWB.out).mono ?_; rintro e w3 ⟨rfl, hg3⟩; have HG3 := hiD (((Gr.refl wr).alloc _).trans hg3); clear hg3)
    go_roundw
    case rel => exact ⟨k + 1, by go_num, by omega, HGR.out.trans HG3.out, HN.out⟩
    case measure => simp [intOf]; omega
  ·obtain rfl : k = len := by omega
   have hd : decide ((k : Int) < (k : Int)) = false := by simp
   have hn : res = none := by rw [HRK.out, List.drop_eq_nil_of_le (by rw [HL.out]; exact Nat.le_refl _)]; rfl
   have HN := hiD hn
   clear hn
   go_wp2_with fail
   exact scale_end (G2.out.trans HGR.out) (Nat.le_add_right _ _) r0 r1 rfl (by rw [HN.out]; rfl) (fun s hs => by rw [HN.out] at hs; cases hs)
end Go.Proofs.OGW
