import Derived.Test.YtmejcmollpbcfaaGreatP48
import Derived.Test.YtmejcmollpbcfaaGreatP49
set_option linter.all false
namespace Go.Proofs.OGW
open Go.RowKit Go.Sort OG Go.Shelf Go.PlainAid
attribute [local go_sem] sA fv sB sG sC Nat.zero_add
attribute [local go_sem ↓] ld66 ld51 st66 st51
theorem tZ40 {P : Prop} (h : P := by
 exact bodyPost_ret (res33t Tryz.results11 rfl rfl (v := .slice none 0 0) (by go_simp)) rfl ⟨ce, [], _, HR.out, rfl, OwnN.nil _ _, (show Gr W _ from gw).b⟩) : P := h
set_option maxRecDepth 100000 in
set_option maxHeartbeats 4000000 in
theorem read_call (most : Int) (SA : Option Addr) (sn sc : Nat) (l : List Sg) (A : Option Addr) (len c : Nat) (bs : List RBox) (way L : Int) (W : World) (hs : SgRow W SA l) (hsl : l.length = sn) (hsb : sn ≤ 1000000) (hr : BoxRow W A bs) (hl : bs.length = len)
 (hTX : ∀ (xs : List PB) ms, bs = xs.map raw → (∀ x ∈ xs, good x = true) → LinesR most l way (xs.map (turnedP · way)) 0 (mostK way (xs.map (turnedP · way)) + 1).toNat (some ms) → checkP most l ms = 0 → ∃ G gs, flatG gs = ms ∧ TxOk most l G gs) :
 Calls Tryz.prog 11 #[lv most SA sn sc, .slice A len c, pgv way L] W (ReadPost W (ReadR most l way L bs)) := by
 have hch1 := signsCheck_call most SA sc l _ (hs.gr ((((Gr.refl W).alloc (.cells #[.int .i64 most, .slice SA sn sc] 24)).alloc (.cells #[.int .i64 way, .int .i64 L] 27)).alloc (.cells #[.slice none 0 0] 33))) sn hsl (by omega)
 have hch2 := pageCheck_call way L
 have hch3 := fun W1 (h : Gr W W1) => check_call A c bs W1 (hr.mono fun _ _ _ => BoxAt.gr h)
 rw [hl] at hch3
 by_cases h1 : listE most l = 0
 ·by_cases h2 : pageE way L = 0
  ·by_cases h3 : checkB bs = 0
   ·obtain ⟨hl200, xs, rfl, hg⟩ := bs_good h3
    rw [List.length_map] at hl hl200
    exact read_main most SA sn sc l A len c xs way L W hs hsl hsb hr hg hl (by omega) h1 h2 h3 (fun ms h4 h5 => hTX xs ms rfl hg h4 h5)
   ·have hR : ReadR most l way L bs (checkB bs) [] := by unfold ReadR; rw [if_neg (by simp [h1]), if_neg (by simp [h2]), if_pos h3]; exact ⟨rfl, rfl⟩
    rw [h1] at hch1
    rw [h2] at hch2
    obtain ⟨ce, hce⟩ : ∃ ce, ce = checkB bs := ⟨_, rfl⟩
    rw [← hce] at hch3 hR h3
    have d0 : (ce != 0) = true := by simp [h3]
    have H1 := hiD hch1
    have H2 := hiD hch2
    have H3 := hiD hch3
    have HR := hiD hR
    clear hch1 hch2 hch3 hR hs hsl hr hl hTX hce h1 h2 h3
    go_enter Tryz.func11, Tryz.ntmps11
    go_wp2_with (first
     | (go_at_call 34; refine H1.out.mono ?_; rintro e w1 ⟨rfl, hg1⟩; obtain ⟨q1, os1, rfl⟩ := hg1.eq; clear hg1)
     | (go_at_call 35; refine (H2.out _).mono ?_; rintro e w2 ⟨rfl, hg2⟩; obtain ⟨q2, os2, rfl⟩ := hg2.eq; clear hg2)
     | (go_at_call 36; refine (H3.out _ gw).mono ?_; rintro e w3 ⟨rfl, hg3⟩; obtain ⟨q3, os3, rfl⟩ := hg3.eq; clear hg3))
    exact tZ40
  ·have hR : ReadR most l way L bs (pageE way L) [] := by unfold ReadR; rw [if_neg (by simp [h1]), if_pos h2]; exact ⟨rfl, rfl⟩
   rw [h1] at hch1
   obtain ⟨ce, hce⟩ : ∃ ce, ce = pageE way L := ⟨_, rfl⟩
   rw [← hce] at hch2 hR h2
   have d0 : (ce != 0) = true := by simp [h2]
   have H1 := hiD hch1
   have H2 := hiD hch2
   have HR := hiD hR
   clear hch1 hch2 hch3 hR hs hsl hr hl hTX hce h1 h2
   go_enter Tryz.func11, Tryz.ntmps11
   go_wp2_with (first
    | (go_at_call 34; refine H1.out.mono ?_; rintro e w1 ⟨rfl, hg1⟩; obtain ⟨q1, os1, rfl⟩ := hg1.eq; clear hg1)
    | (go_at_call 35; refine (H2.out _).mono ?_; rintro e w2 ⟨rfl, hg2⟩; obtain ⟨q2, os2, rfl⟩ := hg2.eq; clear hg2))
   exact tZ40
 ·have hR : ReadR most l way L bs (listE most l) [] := by unfold ReadR; rw [if_pos h1]; exact ⟨rfl, rfl⟩
  obtain ⟨ce, hce⟩ : ∃ ce, ce = listE most l := ⟨_, rfl⟩
  rw [← hce] at hch1 hR h1
  have d0 : (ce != 0) = true := by simp [h1]
  have H1 := hiD hch1
  have HR := hiD hR
  clear hch1 hch2 hch3 hR hs hsl hr hl hTX hce h1
  go_enter Tryz.func11, Tryz.ntmps11
  go_wp2_with (go_at_call 34; refine H1.out.mono ?_; rintro e w1 ⟨rfl, hg1⟩; obtain ⟨q1, os1, rfl⟩ := hg1.eq; clear hg1)
  exact tZ40
end Go.Proofs.OGW
namespace Go.Proofs.OGW
open Go.RowKit Go.Sort OG
theorem DenseR.fit {ac : Bool} {L : List PB} {lo hi g lo' hi' g' : Rat} (h : DenseR ac L lo hi g) (e1 : lo = lo') (e2 : hi = hi') (hg : g ≤ g') : DenseR ac L lo' hi' g' := by
 subst e1 e2
 refine ⟨h.pos, h.low, h.high, h.first, fun b hb hlt => ?_, by have := h.gap; grind⟩
 obtain ⟨c, hc, h1, h2⟩ := h.next b hb hlt
 exact ⟨c, hc, by grind, h2⟩
theorem fit_eq {s P : Rat} (hs : 0 < s) (h1 : s ≤ 1) (n gm : Int) (h0 : 0 ≤ gm) (hg : gm ≤ 20) :
 P + s / 4 * ((0 : Int) : Rat) = P ∧ P + s / 4 * ((0 + 4 * n : Int) : Rat) = P + s * (n : Rat) ∧ s / 4 * ((4 * gm : Int) : Rat) ≤ 20 := by
 have e0 : ((0 : Int) : Rat) = 0 := rfl
 have e4 : ((4 : Int) : Rat) = 4 := rfl
 have a : (0 : Rat) ≤ (gm : Rat) := by exact_mod_cast h0
 have b : (gm : Rat) ≤ 20 := by exact_mod_cast hg
 refine ⟨by rw [e0]; grind, by rw [Int.zero_add, Rat.intCast_mul, e4]; grind, ?_⟩
 rw [Rat.intCast_mul, e4]
 have : s * (gm : Rat) ≤ 1 * (gm : Rat) := Rat.mul_le_mul_of_nonneg_right h1 a
 grind
theorem floor72 {f : Rat} {n : Int} (h1 : 72 * (n : Rat) ≤ f) (h2 : f < 72 * (n : Rat) + 72) : (f * ((1 : Int) : Rat) / ((72 : Nat) : Rat)).floor = n := by
 have e1 : ((1 : Int) : Rat) = 1 := rfl
 have e72 : ((72 : Nat) : Rat) = 72 := rfl
 rw [e1, e72]
 refine Int.le_antisymm ?_ ?_
 ·refine Int.lt_add_one_iff.1 (Rat.floor_lt_iff.2 ?_)
  rw [Rat.intCast_add, e1]
  grind
 ·refine Rat.le_floor_iff.2 ?_
  grind
theorem cross_eq (n : Int) (a : Rat) : crossP n a = 72 * (n : Rat) + 24 - a / 2 := by
 unfold crossP
 rw [Rat.intCast_mul]
 have e1 : ((1 : Int) : Rat) = 1 := rfl
 have e2 : ((2 : Nat) : Rat) = 2 := rfl
 have e72 : ((72 : Int) : Rat) = 72 := rfl
 rw [e1, e2, e72]
 grind
section
variable {z : Sz} {G : Lf → Prop} (hz : SzB z G)
include hz
theorem long_eq (rb : Bool) {p : PG} (h : PgOk z G rb p) : longG z rb p.g = p.s * (((if rb then grpW z rb p.g else grpH z rb p.g) : Int) : Rat) := by
 obtain ⟨a1, a2, a3, a4, a5, a6⟩ := grp_bd hz rb h.plain h.ok
 unfold longG
 rw [h.sc]
 congr 2
 cases rb <;> simp <;> omega
theorem acr_eq (rb : Bool) {p : PG} (h : PgOk z G rb p) : acrG z rb p.g = p.s * (((if rb then grpH z rb p.g else grpW z rb p.g) : Int) : Rat) := by
 obtain ⟨a1, a2, a3, a4, a5, a6⟩ := grp_bd hz rb h.plain h.ok
 unfold acrG
 rw [h.sc]
 congr 2
 cases rb <;> simp <;> omega
theorem ring_dense (rb : Bool) {ks : List Tree} (h : GrpOk G (.ring ks)) : Dense ((grpSq z rb (.ring ks)).map Sq.px) 0 (0 + 4 * grpW z rb (.ring ks)) (4 * 0) ∧ Dense ((grpSq z rb (.ring ks)).map Sq.py) 0 (0 + 4 * grpH z rb (.ring ks)) (4 * 0) := by
 have hin := grp_in hz rb (g := .ring ks) trivial h
 have h4 := grp4 hz rb (g := .ring ks) trivial h
 obtain ⟨a1, a2, a3, a4, a5, a6⟩ := grp_bd hz rb (g := .ring ks) trivial h
 have hmem : ∀ q ∈ inSq z rb ks, q ∈ grpSq z rb (.ring ks) := fun q hq => by simp [grpSq, hq]
 constructor
 ·have d := Dense.one (a := 0) (b := 0 + 4 * grpW z rb (.ring ks)) (g := 4 * 0) (by omega) (by decide)
  have := d.with (J := (inSq z rb ks).map Sq.px) (fun p hp => by
   obtain ⟨q, hq, rfl⟩ := List.mem_map.1 hp
   have := (h4 q (hmem q hq)).w0
   simp only [Sq.px]; omega) (fun p hp => by
   obtain ⟨q, hq, rfl⟩ := List.mem_map.1 hp
   have := (hin q (hmem q hq)).1
   simp only [Sq.px]; omega) (fun p hp => by
   obtain ⟨q, hq, rfl⟩ := List.mem_map.1 hp
   have := (hin q (hmem q hq)).2.1
   simp only [Sq.px]; omega)
  have e : (grpSq z rb (.ring ks)).map Sq.px = [(0, 0 + 4 * grpW z rb (.ring ks))] ++ (inSq z rb ks).map Sq.px := by
   simp only [grpSq, List.map_cons, Sq.px, grpW, List.singleton_append]
  rw [e]; exact this
 ·have d := Dense.one (a := 0) (b := 0 + 4 * grpH z rb (.ring ks)) (g := 4 * 0) (by omega) (by decide)
  have := d.with (J := (inSq z rb ks).map Sq.py) (fun p hp => by
   obtain ⟨q, hq, rfl⟩ := List.mem_map.1 hp
   have := (h4 q (hmem q hq)).h0
   simp only [Sq.py]; omega) (fun p hp => by
   obtain ⟨q, hq, rfl⟩ := List.mem_map.1 hp
   have := (hin q (hmem q hq)).2.2.1
   simp only [Sq.py]; omega) (fun p hp => by
   obtain ⟨q, hq, rfl⟩ := List.mem_map.1 hp
   have := (hin q (hmem q hq)).2.2.2
   simp only [Sq.py]; omega)
  have e : (grpSq z rb (.ring ks)).map Sq.py = [(0, 0 + 4 * grpH z rb (.ring ks))] ++ (inSq z rb ks).map Sq.py := by
   simp only [grpSq, List.map_cons, Sq.py, grpH, List.singleton_append]
  rw [e]; exact this
theorem grp_dense (rb : Bool) {p : PG} (h : PgOk z G rb p) : DenseR rb (pgBoxes z rb p) (p.pos : Rat) ((p.pos : Rat) + longG z rb p.g) 20 := by
 have hsc := scG_ok hz rb h.plain h.ok h.small
 rw [← h.sc] at hsc
 have hk := quarter_pos hsc.pos
 rw [long_eq hz rb h]
 obtain ⟨g, s, ln, po⟩ := p
 have hok := h.ok
 have hpl := h.plain
 have h1 := hsc.one
 have h0 := hsc.pos
 unfold pgBoxes
 simp only at *
 cases g with
 | tree t =>
   have hg := geo z t 0 0 0 (okT hz hok)
   have g1 := gx_le 0 t
   have g2 := gy_le 0 t
   have g3 : 0 ≤ gx 0 t := by cases t <;> simp [gx, sp]
   have g4 : 0 ≤ gy 0 t := by cases t <;> simp [gy, sp]
   have e20 : sp 0 = 20 := rfl
   cases rb
   ·obtain ⟨q1, q2, q3⟩ := fit_eq (P := (po : Rat)) h0 h1 (natH z 0 t) (gy 0 t) g4 (by omega)
    exact DenseR.fit (hg.dy.affY hk (x0 := pgX z false ⟨.tree t, s, ln, po⟩) (y0 := (po : Rat)) (by omega)) q1 q2 q3
   ·obtain ⟨q1, q2, q3⟩ := fit_eq (P := (po : Rat)) h0 h1 (natW z 0 t) (gx 0 t) g3 (by omega)
    exact DenseR.fit (hg.dx.affX hk (x0 := (po : Rat)) (y0 := pgY z true ⟨.tree t, s, ln, po⟩) (by omega)) q1 q2 q3
 | hon ks => exact hpl.elim
 | ring ks =>
   cases rb
   ·obtain ⟨q1, q2, q3⟩ := fit_eq (P := (po : Rat)) h0 h1 (grpH z false (.ring ks)) 0 (by decide) (by decide)
    exact DenseR.fit ((ring_dense hz false hok).2.affY hk (x0 := pgX z false ⟨.ring ks, s, ln, po⟩) (y0 := (po : Rat)) (by omega)) q1 q2 q3
   ·obtain ⟨q1, q2, q3⟩ := fit_eq (P := (po : Rat)) h0 h1 (grpW z true (.ring ks)) 0 (by decide) (by decide)
    exact DenseR.fit ((ring_dense hz true hok).1.affX hk (x0 := (po : Rat)) (y0 := pgY z true ⟨.ring ks, s, ln, po⟩) (by omega)) q1 q2 q3
 | rhon ks => exact hpl.elim
theorem box_across (rb : Bool) {p : PG} (h : PgOk z G rb p) : ∀ b ∈ pgBoxes z rb p, 72 * (p.line : Rat) ≤ fr (!rb) b ∧ fr (!rb) b < 72 * (p.line : Rat) + 48 ∧ OG.to (!rb) b ≤ 72 * (p.line : Rat) + 48 := by
 have hsc := scG_ok hz rb h.plain h.ok h.small
 rw [← h.sc] at hsc
 have hk := quarter_pos hsc.pos
 have hin := grp_in hz rb h.plain h.ok
 have h4 := grp4 hz rb h.plain h.ok
 have hbd := grp_bd hz rb h.plain h.ok
 have hac := hsc.across
 have hpos := hsc.pos
 intro b hb
 obtain ⟨q, hq, rfl⟩ := List.mem_map.1 hb
 have z0 : ((0 : Int) : Rat) = 0 := rfl
 have z4 : ((4 : Int) : Rat) = 4 := rfl
 have key : ∀ (n : Int) (a e : Int), 0 ≤ a → 0 < e → a + e ≤ 4 * n → p.s * (n : Rat) ≤ 48 → 72 * (p.line : Rat) ≤ crossP p.line (p.s * (n : Rat)) + p.s / 4 * (a : Rat) ∧ crossP p.line (p.s * (n : Rat)) + p.s / 4 * (a : Rat) < 72 * (p.line : Rat) + 48 ∧ crossP p.line (p.s * (n : Rat)) + p.s / 4 * (a : Rat) + p.s / 4 * (e : Rat) ≤ 72 * (p.line : Rat) + 48 := by
  intro n a e ha he hn h48
  rw [cross_eq]
  have m1 := mul_le' hk ha
  have m2 := mul_lt' hk he
  have m3 := mul_le' hk hn
  rw [z0] at m1 m2
  rw [Rat.intCast_add, Rat.intCast_mul, z4] at m3
  refine ⟨by grind, by grind, by grind⟩
 obtain ⟨i1, i2, i3, i4⟩ := hin q hq
 obtain ⟨_, _, _, _, w0, h0⟩ := h4 q hq
 obtain ⟨b1, b2, b3, b4, b5, b6⟩ := hbd
 cases rb
 ·have hac' : p.s * ((grpW z false p.g : Int) : Rat) ≤ 48 := by
   obtain ⟨n, hn⟩ : ∃ n : Nat, grpW z false p.g = n := ⟨(grpW z false p.g).toNat, by omega⟩
   rw [if_neg (by decide), hn, Int.toNat_natCast] at hac
   rw [hn]; exact hac
  have := key (grpW z false p.g) q.x q.w i1 w0 i2 hac'
  simp only [fr, OG.to, ex, Bool.not_false, if_true, aff, pgX, Bool.false_eq_true, if_false, acr_eq hz false h]
  exact this
 ·have hac' : p.s * ((grpH z true p.g : Int) : Rat) ≤ 48 := by
   obtain ⟨n, hn⟩ : ∃ n : Nat, grpH z true p.g = n := ⟨(grpH z true p.g).toNat, by omega⟩
   rw [if_pos rfl, hn, Int.toNat_natCast] at hac
   rw [hn]; exact hac
  have := key (grpH z true p.g) q.y q.h i3 h0 i4 hac'
  simp only [fr, OG.to, ex, Bool.not_true, if_true, aff, pgY, Bool.false_eq_true, if_false, acr_eq hz true h]
  exact this
theorem line_box (way : Int) {p : PG} (h : PgOk z G (decide (way ≤ 2)) p) : ∀ b ∈ pgBoxes z (decide (way ≤ 2)) p, lineK way b = p.line := by
 intro b hb
 obtain ⟨h1, h2, _⟩ := box_across hz _ h b hb
 exact floor72 h1 (by grind)
theorem pg_ne (rb : Bool) {p : PG} (h : PgOk z G rb p) : ∃ b, b ∈ pgBoxes z rb p := by
 obtain ⟨b, hb, _⟩ := (grp_dense hz rb h).first
 exact ⟨b, hb⟩
end
theorem stand_line (z : Sz) (rb : Bool) (L : Int) : ∀ (gs : List Grp) (ln po : Int), ∀ p ∈ standL z rb L gs ln po, ln ≤ p.line ∧ p.line ≤ ln + gs.length
 | [], ln, po, p, hp => by simp [standL] at hp
 | g :: r, ln, po, p, hp => by
   rw [List.length_cons]
   unfold standL at hp
   split at hp
   ·rcases List.mem_cons.1 hp with rfl | hp
    ·show ln ≤ ln + 1 ∧ ln + 1 ≤ _; omega
    ·have := stand_line z rb L r _ _ p hp; omega
   ·rcases List.mem_cons.1 hp with rfl | hp
    ·show ln ≤ ln ∧ ln ≤ _; omega
    ·have := stand_line z rb L r _ _ p hp; omega
theorem stand_pair (z : Sz) (rb : Bool) (L : Int) : ∀ (gs : List Grp) (ln po : Int), (standL z rb L gs ln po).Pairwise fun a b => a.line ≤ b.line
 | [], ln, po => by simp [standL]
 | g :: r, ln, po => by
   unfold standL
   split
   ·exact List.pairwise_cons.2 ⟨fun p hp => (stand_line z rb L r _ _ p hp).1, stand_pair z rb L r _ _⟩
   ·exact List.pairwise_cons.2 ⟨fun p hp => (stand_line z rb L r _ _ p hp).1, stand_pair z rb L r _ _⟩
theorem stand_grps (z : Sz) (rb : Bool) (L : Int) : ∀ (gs : List Grp) (ln po : Int), (standL z rb L gs ln po).flatMap (fun p => p.g.flat) = flatG gs
 | [], ln, po => rfl
 | g :: r, ln, po => by
   unfold standL
   split
   ·rw [List.flatMap_cons, stand_grps z rb L r, flatG]
   ·rw [List.flatMap_cons, stand_grps z rb L r, flatG]
theorem stand_rows {z : Sz} {G : Lf → Prop} (hz : SzB z G) (rb : Bool) (L : Int) : ∀ (gs : List Grp) (ln po : Int), (∀ p ∈ standL z rb L gs ln po, PgOk z G rb p) → ∀ k : Int,
 (standL z rb L gs ln po).filter (fun p => decide (p.line = k)) = [] ∨ ∃ lo : Rat, OG.Rows rb g24 (((standL z rb L gs ln po).filter (fun p => decide (p.line = k))).map (pgBoxes z rb)) lo ∧ (k = ln → (po : Rat) ≤ lo)
 | [], ln, po, hg, k => by left; rfl
 | g :: r, ln, po, hg, k => by
   have near : ∀ x : Rat, x ≤ 20 → g24 x = false := fun x hx => by
    unfold g24
    rw [decide_eq_false_iff_not]
    grind
   have key : ∀ (s : Rat) (ln po : Int), PgOk z G rb ⟨g, s, ln, po⟩ → (∀ p ∈ standL z rb L r ln (((po + 24 : Int) : Rat) + longG z rb g).ceil, PgOk z G rb p) →
    ((⟨g, s, ln, po⟩ :: standL z rb L r ln (((po + 24 : Int) : Rat) + longG z rb g).ceil).filter (fun p => decide (p.line = k)) = [] ∨
    ∃ lo : Rat, OG.Rows rb g24 (((⟨g, s, ln, po⟩ :: standL z rb L r ln (((po + 24 : Int) : Rat) + longG z rb g).ceil).filter (fun p => decide (p.line = k))).map (pgBoxes z rb)) lo ∧ (k = ln → (po : Rat) ≤ lo)) := by
    intro s ln po hp hr
    have ih := stand_rows hz rb L r ln (((po + 24 : Int) : Rat) + longG z rb g).ceil hr k
    by_cases hk : ln = k
    ·rw [List.filter_cons_of_pos (by simpa using hk)]
     right
     have hd := grp_dense hz rb hp
     refine ⟨(po : Rat), ?_, fun _ => Rat.le_refl⟩
     rw [List.map_cons]
     rcases ih with ih | ⟨lo, ih, hlo⟩
     ·rw [ih]
      exact .one hd near
     ·have h1 := hlo hk.symm
      have h2 : (((po + 24 : Int) : Rat) + longG z rb g) ≤ lo := Rat.le_trans Rat.le_ceil h1
      have e24 : ((24 : Int) : Rat) = 24 := rfl
      rw [Rat.intCast_add, e24] at h2
      refine .cons hd near ?_ ?_ ih
      ·show (po : Rat) + longG z rb g < lo
       grind
      ·show g24 (lo - ((po : Rat) + longG z rb g)) = true
       unfold g24
       rw [decide_eq_true_eq]
       grind
    ·rw [List.filter_cons_of_neg (by simpa using hk)]
     rcases ih with ih | ⟨lo, ih, hlo⟩
     ·exact .inl ih
     ·exact .inr ⟨lo, ih, fun e => absurd e.symm hk⟩
   unfold standL at hg ⊢
   split
   ·rename_i hc
    rw [if_pos hc] at hg
    rcases key _ _ _ (hg _ List.mem_cons_self) (fun p hp => hg p (List.mem_cons_of_mem _ hp)) with h | ⟨lo, h, hlo⟩
    ·exact .inl h
    ·by_cases hk : k = ln
     ·left
      rw [List.filter_eq_nil_iff]
      intro p hp
      simp only [decide_eq_true_eq]
      rcases List.mem_cons.1 hp with rfl | hp
      ·show ¬ ln + 1 = k; omega
      ·have := (stand_line z rb L r _ _ p hp).1; omega
     ·exact .inr ⟨lo, h, fun e => absurd e hk⟩
   ·rename_i hc
    rw [if_neg hc] at hg
    exact key _ _ _ (hg _ List.mem_cons_self) (fun p hp => hg p (List.mem_cons_of_mem _ hp))
theorem filter_split (k : Int) (n : Nat) : ∀ {S : List PG}, S.Pairwise (fun a b => a.line ≤ b.line) →
 S.filter (fun p => decide (k ≤ p.line) && decide (p.line < k + ((n + 1 : Nat) : Int))) = S.filter (fun p => decide (p.line = k)) ++ S.filter (fun p => decide (k + 1 ≤ p.line) && decide (p.line < k + 1 + (n : Int)))
 | [], _ => rfl
 | p :: S, h => by
   obtain ⟨h1, h2⟩ := List.pairwise_cons.1 h
   have ih := filter_split k n h2
   by_cases hk : p.line = k
   ·rw [List.filter_cons_of_pos (by simp; omega), List.filter_cons_of_pos (by simpa using hk), List.filter_cons_of_neg (by simp; omega), ih]
    rfl
   ·rw [List.filter_cons_of_neg (p := fun p : PG => decide (p.line = k)) (by simpa using hk)]
    by_cases hlt : p.line < k
    ·rw [List.filter_cons_of_neg (by simp; omega), List.filter_cons_of_neg (by simp; omega), ih]
    ·have e : S.filter (fun p => decide (p.line = k)) = [] := by
      rw [List.filter_eq_nil_iff]
      intro q hq
      have := h1 q hq
      simp only [decide_eq_true_eq]
      omega
     rw [e, List.nil_append] at ih ⊢
     by_cases hin : p.line < k + ((n + 1 : Nat) : Int)
     ·rw [List.filter_cons_of_pos (by simp; omega), List.filter_cons_of_pos (by simp; omega), ih]
     ·rw [List.filter_cons_of_neg (by simp; omega), List.filter_cons_of_neg (by simp; omega), ih]
theorem filter_flat {f : PG → List PB} {m : PB → Int} (k : Int) : ∀ {S : List PG}, (∀ p ∈ S, ∀ b ∈ f p, m b = p.line) → (S.flatMap f).filter (fun b => decide (m b = k)) = (S.filter (fun p => decide (p.line = k))).flatMap f
 | [], _ => rfl
 | p :: S, h => by
   have ih := filter_flat (S := S) k (fun q hq => h q (List.mem_cons_of_mem _ hq))
   rw [List.flatMap_cons, List.filter_append, ih]
   by_cases hk : p.line = k
   ·rw [List.filter_cons_of_pos (by simpa using hk), List.flatMap_cons, List.filter_eq_self.2]
    intro b hb
    rw [decide_eq_true_eq, h p (by simp) b hb]; exact hk
   ·rw [List.filter_cons_of_neg (by simpa using hk)]
    have : (f p).filter (fun b => decide (m b = k)) = [] := by
     rw [List.filter_eq_nil_iff]
     intro b hb
     rw [decide_eq_true_eq, h p (by simp) b hb]; exact hk
    rw [this, List.nil_append]
theorem all_parts {C : List PB → Option (List Nd) → Prop} {f : PG → List PB} : ∀ {A : List PG} {parts : List (List PB)} {q : Option (List Nd)}, PermAll parts (A.map f) → (∀ p ∈ A, ∀ xs r, xs.Perm (f p) → C xs r → r = some p.g.flat) → AllR C parts q → q = some (A.flatMap fun p => p.g.flat)
 | [], parts, q, hp, _, ha => by
   have : parts = [] := List.eq_nil_of_length_eq_zero (by rw [hp.length]; rfl)
   subst this
   exact ha
 | p :: A, parts, q, hp, h, ha => by
   rw [List.map_cons] at hp
   cases hp with
   | @cons x _ ps _ hp1 hp2 =>
     rcases ha with ⟨h1, _⟩ | ⟨u, r2, h1, h2, rfl⟩
     ·have := h p (by simp) x none hp1 h1
      cases this
     ·have e1 := h p (by simp) x (some u) hp1 h1
      have e2 := all_parts hp2 (fun p' hp' => h p' (by simp [hp'])) h2
      rw [e2]
      cases e1
      rfl
theorem mostK_ge (f : PB → Int) : ∀ (ts : List PB) (m : Int), m ≤ ts.foldl (fun m b => max m (f b)) m ∧ ∀ b ∈ ts, f b ≤ ts.foldl (fun m b => max m (f b)) m
 | [], m => ⟨Int.le_refl _, by simp⟩
 | b :: r, m => by
   obtain ⟨h1, h2⟩ := mostK_ge f r (max m (f b))
   rw [List.foldl_cons]
   refine ⟨by omega, fun c hc => ?_⟩
   rcases List.mem_cons.1 hc with rfl | hc
   ·omega
   ·exact h2 c hc
section
variable {most : Int} {l : List Sg} {G : Lf → Prop} (hz : SzB (zOf most l) G) (way L : Int) {gs : List Grp} (hS : ∀ p ∈ standL (zOf most l) (decide (way ≤ 2)) L gs 0 0, PgOk (zOf most l) G (decide (way ≤ 2)) p)
 {ts : List PB} (ht : ts.Perm ((standL (zOf most l) (decide (way ≤ 2)) L gs 0 0).flatMap (pgBoxes (zOf most l) (decide (way ≤ 2)))))
include hz hS ht
theorem line_lay {k : Int} {q : Option (List Nd)} (h : LineR most l way ts k q) : q = some (((standL (zOf most l) (decide (way ≤ 2)) L gs 0 0).filter (fun p => decide (p.line = k))).flatMap fun p => p.g.flat) := by
 obtain ⟨parts, hs, ha⟩ := h
 have hl : (lineAt way ts k).Perm (((standL (zOf most l) (decide (way ≤ 2)) L gs 0 0).filter (fun p => decide (p.line = k))).flatMap (pgBoxes (zOf most l) (decide (way ≤ 2)))) := by
  unfold lineAt
  refine (ht.filter _).trans ?_
  rw [filter_flat k (fun p hp b hb => line_box hz way (hS p hp) b hb)]
 rcases stand_rows hz (decide (way ≤ 2)) L gs 0 0 hS k with h | ⟨lo, h, _⟩
 ·rw [h] at hl ⊢
  have e : lineAt way ts k = [] := List.Perm.eq_nil hl
  rw [e] at hs
  obtain ⟨ys, h1, h2, rfl⟩ := hs
  have : ys = [] := List.Perm.eq_nil h1
  subst this
  exact ha
 ·refine all_parts (f := pgBoxes (zOf most l) (decide (way ≤ 2))) (parts_rows h ?_ hs) (fun p hp xs r hx hr => guess_grp hz _ (hS p (List.mem_filter.1 hp).1) hx hr) ha
  rw [← List.flatMap_def]
  exact hl
theorem lines_lay : ∀ (n : Nat) (k : Int) (r : Option (List Nd)), LinesR most l way ts k n r → r = some (((standL (zOf most l) (decide (way ≤ 2)) L gs 0 0).filter (fun p => decide (k ≤ p.line) && decide (p.line < k + (n : Int)))).flatMap fun p => p.g.flat)
 | 0, k, r, h => by
   have e : (standL (zOf most l) (decide (way ≤ 2)) L gs 0 0).filter (fun p => decide (k ≤ p.line) && decide (p.line < k + ((0 : Nat) : Int))) = [] := by
    rw [List.filter_eq_nil_iff]
    intro p _
    simp
   rw [e]
   exact h
 | n + 1, k, r, h => by
   obtain ⟨q, h1, h2⟩ := h
   have e := line_lay hz way L hS ht h1
   subst e
   simp only at h2
   obtain ⟨r2, h3, rfl⟩ := h2
   rw [lines_lay n (k + 1) r2 h3, filter_split k n (stand_pair _ _ _ _ _ _), List.flatMap_append]
   rfl
theorem lines_all {r : Option (List Nd)} (h : LinesR most l way ts 0 (mostK way ts + 1).toNat r) : r = some (flatG gs) := by
 rw [lines_lay hz way L hS ht _ _ _ h, List.filter_eq_self.2, stand_grps]
 intro p hp
 obtain ⟨b, hb⟩ := pg_ne hz _ (hS p hp)
 have hbt : b ∈ ts := ht.mem_iff.2 (List.mem_flatMap.2 ⟨p, hp, hb⟩)
 have h1 := (mostK_ge (lineK way) ts (-1)).2 b hbt
 have h2 := line_box hz way (hS p hp) b hb
 have h3 := (stand_line _ _ _ _ _ _ p hp).1
 have h4 : lineK way b ≤ mostK way ts := h1
 simp only [Bool.and_eq_true, decide_eq_true_eq]
 omega
end
theorem placed_raw {x : PB} (h : good x = true) : (raw x).placed = true := by
 have e : (raw x).rat = x := by
  obtain ⟨lf, a, b, c, d⟩ := x
  simp only [RBox.rat, Int.toNat_natCast, Rat.mkRat_self]
 unfold RBox.placed
 rw [e]
 simp only [good, Bool.and_eq_true] at h
 simp only [RBox.valid, validB_rat, Bool.and_eq_true]
 exact h
theorem checkB_good {xs : List PB} (h : ∀ x ∈ xs, good x = true) (hl : xs.length ≤ 200) : checkB (xs.map raw) = 0 := by
 unfold checkB
 rw [if_neg (by rw [List.length_map]; omega), if_pos]
 rw [List.all_eq_true]
 intro b hb
 obtain ⟨x, hx, rfl⟩ := List.mem_map.1 hb
 exact placed_raw (h x hx)
theorem raws_inj : ∀ {xs ys : List PB}, xs.map raw = ys.map raw → xs = ys
 | [], [], _ => rfl
 | [], _ :: _, h => by simp at h
 | _ :: _, [], h => by simp at h
 | x :: xs, y :: ys, h => by
   simp only [List.map_cons, List.cons.injEq] at h
   rw [raw_inj h.1, raws_inj h.2]
section
variable {most : Int} {l : List Sg} {G : Lf → Prop} {gs : List Grp} (hT : TxOk most l G gs) (way L : Int) (hp : pageE way L = 0) {xs : List PB} (hx : xs.Perm (layP (zOf most l) (decide (way ≤ 2)) way L gs))
include hT hp hx
theorem lay_goods : ∀ x ∈ xs, good x = true := by
 intro x hx'
 obtain ⟨_, _, _, hL⟩ := page_bd hp
 have h1 := hx.mem_iff.1 hx'
 unfold layP at h1
 obtain ⟨p, hp', h2⟩ := List.mem_flatMap.1 h1
 obtain ⟨b, hb, rfl⟩ := List.mem_map.1 h2
 exact good.turned (pg_good hT.sz _ (hT.pg _ hL p hp') b hb) way
theorem lay_turned : (xs.map (turnedP · way)).Perm ((standL (zOf most l) (decide (way ≤ 2)) L gs 0 0).flatMap (pgBoxes (zOf most l) (decide (way ≤ 2)))) := by
 refine (hx.map (turnedP · way)).trans ?_
 unfold layP
 rw [List.map_flatMap]
 have : (fun p : PG => List.map (turnedP · way) (List.map (fun b => turnedP b way) (pgBoxes (zOf most l) (decide (way ≤ 2)) p))) = pgBoxes (zOf most l) (decide (way ≤ 2)) := by
  funext p
  rw [List.map_map]
  conv => rhs; rw [← List.map_id (pgBoxes (zOf most l) (decide (way ≤ 2)) p)]
  exact List.map_congr_left fun b _ => turned_turned b way
 rw [this]
theorem lay_len : xs.length ≤ 200 := by
 rw [hx.length_eq]
 have := layL_len (zOf most l) (decide (way ≤ 2)) way L gs 0 0
 have := hT.len
 unfold layP
 omega
theorem lay_lines {r : Option (List Nd)} (h : LinesR most l way (xs.map (turnedP · way)) 0 (mostK way (xs.map (turnedP · way)) + 1).toNat r) : r = some (flatG gs) := by
 obtain ⟨_, _, _, hL⟩ := page_bd hp
 exact lines_all hT.sz way L (hT.pg _ hL) (lay_turned hT way L hp hx) h
theorem lay_no_bad : (xs.map (turnedP · way)).any (lineBad way) = false := by
 obtain ⟨_, _, _, hL⟩ := page_bd hp
 rw [List.any_eq_false]
 intro b hb
 have h1 := (lay_turned hT way L hp hx).mem_iff.1 hb
 obtain ⟨p, hp', h2⟩ := List.mem_flatMap.1 h1
 have e := line_box hT.sz way (hT.pg _ hL p hp') b h2
 have h3 := stand_line _ _ _ _ _ _ p hp'
 have h4 := flatG_len (fun g hg => (hT.grp g hg).1)
 have h5 := hT.len
 unfold lineBad
 rw [e]
 simp only [Bool.or_eq_true, decide_eq_true_eq]
 omega
theorem read_lay (hl : listE most l = 0) (hc : checkP most l (flatG gs) = 0) {er : Int} {ns : List Nd} (h : ReadR most l way L (xs.map raw) er ns) : er = 0 ∧ ns = flatG gs := by
 have hg := lay_goods hT way L hp hx
 unfold ReadR at h
 rw [if_neg (by simp [hl]), if_neg (by simp [hp]), if_neg (by simp [checkB_good hg (lay_len hT way L hp hx)])] at h
 obtain ⟨xs', e, _, h⟩ := h
 have e' := raws_inj e
 subst e'
 rw [if_neg (by rw [lay_no_bad hT way L hp hx]; decide)] at h
 obtain ⟨r, h1, h2⟩ := h
 have er' := lay_lines hT way L hp hx h1
 subst er'
 simp only at h2
 unfold AgainR at h2
 rw [if_neg (by simp [hc])] at h2
 obtain ⟨G2, gs2, ys, zs, f1, T2, p1, s1, p2, s2, h3⟩ := h2
 have eg : gs2 = gs := flatG_inj T2.grp hT.grp f1
 subst eg
 have eyz : ys = zs := srt_unique ((p1.trans hx.symm).trans p2.symm) s1 s2
 rcases h3 with ⟨_, h4, h5⟩ | ⟨h4, _⟩
 ·exact ⟨h4, h5⟩
 ·exact absurd eyz h4
end
end Go.Proofs.OGW
