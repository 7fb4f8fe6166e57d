import Derived.Test.YtmejcmollpbcfaaGreatP37
set_option linter.all false
namespace Go.Proofs.OGW
open Go.RowKit Go.Sort OG
theorem tZ118 {P : Prop} (h : P := by
 refine ⟨?_, by rw [w1]; omega, by rw [w2]; omega⟩
 unfold FigB
 exact ⟨by omega, by omega, by omega, by omega, by omega, hf⟩) : P := h
section
variable {z : Sz} {G : Lf → Prop} (hz : SzB z G)
include hz
mutual
theorem figB_tree : ∀ (t : Tree) (d : Int) (i : Nat), 0 ≤ d → TreeOk G d t → (flat d t).length ≤ 1000 → FigB (figOf z d i t)
 | .leaf f, d, i, h0, h, hl => by
   have := hz.w0 f h.1; have := hz.w1 f h.1; have := hz.h0 f h.1; have := hz.h1 f h.1
   unfold figOf FigB
   omega
 | .over f _, d, i, h0, h, hl => by
   have := hz.w0 f h.1; have := hz.w1 f h.1; have := hz.h0 f h.1; have := hz.h1 f h.1
   unfold figOf FigB
   omega
 | .beside ks, d, i, h0, h, hl => by
   have hd := h.deep
   obtain ⟨h1, h2, h3, hk⟩ := h
   have hl2 : (flats (d + 1) ks).length ≤ 1000 := by simp only [flat, List.length_cons] at hl; omega
   obtain ⟨⟨a1, a2, a3, a4, _⟩, _⟩ := nats_bd hz ks (d + 1) (sp d) (by omega) (by have := sp_ge hd; omega) (sp_le h0) (sp_4 d) hk
   obtain ⟨e1, e2, e3, e4⟩ := figsW_of z ks (d + 1) (sp d) (i + 1)
   have hs : 0 ≤ sp d * (ks.length : Int) := Int.mul_nonneg (by have := sp_ge hd; omega) (by omega)
   unfold figOf FigB
   have := sp_le h0; have := sp_ge hd
   exact ⟨by omega, by omega, by rw [figsOf_len]; omega, by rw [figsOf_len]; omega, by omega, figBs_trees ks (d + 1) (i + 1) (by omega) hk hl2⟩
 | .above ks, d, i, h0, h, hl => by
   have hd := h.deep
   obtain ⟨h1, h2, h3, hk⟩ := h
   have hl2 : (flats (d + 1) ks).length ≤ 1000 := by simp only [flat, List.length_cons] at hl; omega
   obtain ⟨⟨a1, a2, a3, a4, _⟩, _⟩ := nats_bd hz ks (d + 1) (sp d) (by omega) (by have := sp_ge hd; omega) (sp_le h0) (sp_4 d) hk
   obtain ⟨e1, e2, e3, e4⟩ := figsW_of z ks (d + 1) (sp d) (i + 1)
   have hs : 0 ≤ sp d * (ks.length : Int) := Int.mul_nonneg (by have := sp_ge hd; omega) (by omega)
   unfold figOf FigB
   have := sp_le h0; have := sp_ge hd
   exact ⟨by omega, by omega, by rw [figsOf_len]; omega, by rw [figsOf_len]; omega, by omega, figBs_trees ks (d + 1) (i + 1) (by omega) hk hl2⟩
theorem figBs_trees : ∀ (ks : List Tree) (d : Int) (i : Nat), 0 ≤ d → TreesOk G d ks → (flats d ks).length ≤ 1000 → FigBs (figsOf z d i ks)
 | [], d, i, h0, h, hl => trivial
 | t :: r, d, i, h0, h, hl => by
   simp only [flats, List.length_append] at hl
   exact ⟨figB_tree t d i h0 h.1 (by omega), figBs_trees r d _ h0 h.2 (by omega)⟩
end
theorem figG_ok (rb : Bool) (g : Grp) (i : Nat) (hp : isPlain g) (h : GrpOk G g) (hl : g.flat.length ≤ 1000) : FigB (figG z rb i g) ∧ figW (figG z rb i g) = grpW z rb g ∧ figH (figG z rb i g) = grpH z rb g := by
 cases g with
 | tree t => exact ⟨figB_tree hz t 0 i (by omega) h hl, figW_of z t 0 i⟩
 | hon ks => exact hp.elim
 | ring ks =>
   obtain ⟨h1, h2, h3, hk⟩ := h
   have hn : ks ≠ [] := by intro e; rw [e] at h1; simp at h1
   have hl2 : (flats 1 ks).length ≤ 1000 := by simp only [Grp.flat, List.length_cons] at hl; omega
   obtain ⟨⟨a1, a2, a3, a4, _⟩, _⟩ := nats_bd hz ks 1 20 (by omega) (by omega) (by omega) (by omega) hk
   obtain ⟨e1, e2, e3, e4⟩ := figsW_of z ks 1 20 (i + 1)
   have hf := figBs_trees hz ks 1 (i + 1) (by omega) hk hl2
   have hfl := figsOf_len z 1 ks (i + 1)
   obtain ⟨b1, b2, b3, b4, b5, b6⟩ := in_bd hz rb hn hk
   cases rb
   ·have w1 : figW (.above (figsOf z 1 (i + 1) ks) 20) = inW z false ks := by simp only [figW, inW, Bool.false_eq_true, if_false, e3]
    have w2 : figH (.above (figsOf z 1 (i + 1) ks) 20) = inH z false ks := by simp only [figH, inH, Bool.false_eq_true, if_false, e2, hfl, Int.mul_sub]; omega
    refine ⟨?_, ?_, ?_⟩
    ·show FigB (.ring i (.above (figsOf z 1 (i + 1) ks) 20))
     unfold FigB
     exact tZ118
    ·show figW (.above (figsOf z 1 (i + 1) ks) 20) + 24 = _
     rw [w1]; rfl
    ·show figH (.above (figsOf z 1 (i + 1) ks) 20) + 24 = _
     rw [w2]; rfl
   ·have w1 : figW (.beside (figsOf z 1 (i + 1) ks) 20) = inW z true ks := by simp only [figW, inW, if_true, e1, hfl, Int.mul_sub]; omega
    have w2 : figH (.beside (figsOf z 1 (i + 1) ks) 20) = inH z true ks := by simp only [figH, inH, if_true, e4]
    refine ⟨?_, ?_, ?_⟩
    ·show FigB (.ring i (.beside (figsOf z 1 (i + 1) ks) 20))
     unfold FigB
     exact tZ118
    ·show figW (.beside (figsOf z 1 (i + 1) ks) 20) + 24 = _
     rw [w1]; rfl
    ·show figH (.beside (figsOf z 1 (i + 1) ks) 20) + 24 = _
     rw [w2]; rfl
 | rhon ks => exact hp.elim
end
theorem grp_cons {g : Grp} (hp : isPlain g) : ∃ f tl, g.flat = ⟨f, 0⟩ :: tl ∧ (∀ n ∈ tl, 0 < n.depth) ∧ (isRingG g = true → f = bare 5) := by
 cases g with
 | tree t =>
   obtain ⟨f, tl, e, h⟩ := flat_cons 0 t
   exact ⟨f, tl, e, h, fun h => by cases h⟩
 | hon ks => exact hp.elim
 | ring ks => exact ⟨bare 5, flats 1 ks, rfl, fun n hn => by have := flats_ge 1 ks n hn; omega, fun _ => rfl⟩
 | rhon ks => exact hp.elim
theorem stop_grps {gs : List Grp} (hp : ∀ g ∈ gs, isPlain g) : Stop 0 (flatG gs) := by
 cases gs with
 | nil => intro n hn; simp [flatG] at hn
 | cons g r =>
   obtain ⟨f, tl, e, _⟩ := grp_cons (hp g (by simp))
   intro n hn
   rw [flatG, e] at hn
   simp at hn
   rw [← hn]; exact Int.le_refl _
theorem endN_grp {ns : List Nd} {i : Nat} {g : Grp} {rest : List Nd} (hp : isPlain g) (h : ns.drop i = g.flat ++ rest) (hs : Stop 0 rest) : endN ns i = i + g.flat.length := by
 obtain ⟨f, tl, e, htl, _⟩ := grp_cons hp
 rw [e] at h ⊢
 rw [List.cons_append] at h
 obtain ⟨h1, h2⟩ := get_of_drop h
 unfold endN
 rw [h1]
 show i + 1 + skipN 0 (ns.drop (i + 1)) = _
 rw [h2, skipN_all 0 tl rest htl hs, List.length_cons]
 omega
theorem tree_kind5 {G : Lf → Prop} {t : Tree} (h : TreeOk G 0 t) : ∀ n, (flat 0 t).head? = some n → n.lf.kind ≠ 5 := by
 intro n hn
 cases t with
 | leaf f =>
   simp [flat] at hn
   subst hn
   have : f.kind = 1 ∨ f.kind = 6 := h.2.1
   show f.kind ≠ 5
   omega
 | over a b => simp [flat] at hn; subst hn; decide
 | beside ks => simp [flat] at hn; subst hn; decide
 | above ks => simp [flat] at hn; subst hn; decide
section
variable (most : Int) (SA : Option Addr) (sn sc : Nat) (A : Option Addr) (len c : Nat) (rb : Bool) (l : List Sg) (ns : List Nd) (w : World) (hE : LayEnv w most SA sn sc A len c l ns) (G : Lf → Prop) (hG : ∀ f, G f → LfB most l f) (hz : SzB (zOf most l) G)
include hE hG hz
theorem fig_grp (g : Grp) (i : Nat) (rest : List Nd) (hp : isPlain g) (hT : GrpOk G g) (hd : ns.drop i = g.flat ++ rest) (hs : Stop 0 rest) : FigAns w (layv most SA sn sc A len c rb) i (figG (zOf most l) rb i g) := by
 cases g with
 | tree t => exact fig_tree most SA sn sc A len c rb l ns w hE G hG t 0 i rest (by omega) hT hd hs
 | hon ks => exact hp.elim
 | ring ks =>
   obtain ⟨h1, hd1⟩ := get_of_drop hd
   have hi : i < len := by have := (gO h1).1; have := hE.nl; omega
   have hend := endN_grp hp hd hs
   have hl : (Grp.ring ks).flat.length = (flats 1 ks).length + 1 := rfl
   have hch := kids_tree most SA sn sc A len c rb l ns w hE G hG ks 1 (i + 1) rest (endN ns i) (by omega) hT.2.2.2 hd1 (hs.mono (by omega)) (by rw [hend, hl]; omega)
   have hka := kids_call most SA sn sc A len c rb l ns i w hE hi _ hch (by rw [figsOf_len]; have := hT.2.1; omega)
   cases rb
   ·exact fig_ring most SA sn sc A len c false l ns i _ w hE h1 rfl _ (inside_above most SA sn sc A len c i w _ hka)
   ·exact fig_ring most SA sn sc A len c true l ns i _ w hE h1 rfl _ (inside_beside most SA sn sc A len c i w _ hka)
 | rhon ks => exact hp.elim
theorem chain_grps : ∀ (gs : List Grp) (i : Nat), (∀ g ∈ gs, isPlain g ∧ GrpOk G g ∧ g.flat.length ≤ 1000) → ns.drop i = flatG gs → i ≤ ns.length → GChain w (layv most SA sn sc A len c rb) ns i (gisOf (zOf most l) rb i gs)
 | [], i, hg, hd, hi => by
   show i = ns.length
   have := congrArg List.length hd
   simp [flatG] at this
   omega
 | g :: r, i, hg, hd, hi => by
   obtain ⟨hp, hT, hl⟩ := hg g (by simp)
   have hd' : ns.drop i = g.flat ++ flatG r := hd
   have hs := stop_grps (gs := r) (fun x hx => (hg x (by simp [hx])).1)
   obtain ⟨b1, b2, b3⟩ := figG_ok hz rb g i hp hT hl
   obtain ⟨c1, c2, c3, c4, c5, c6⟩ := grp_bd hz rb hp hT
   obtain ⟨f, tl, e, htl, hf5⟩ := grp_cons hp
   have hn : ns[i]? = some ⟨f, 0⟩ := by
    rw [e] at hd'
    exact (get_of_drop hd').1
   refine ⟨rfl, ⟨fig_grp most SA sn sc A len c rb l ns w hE G hG hz g i (flatG r) hp hT hd' hs, b1, by rw [show (giOf (zOf most l) rb i g).F = figG (zOf most l) rb i g from rfl, b2]; show _ = (((grpW (zOf most l) rb g).toNat : Nat) : Int); omega, by rw [show (giOf (zOf most l) rb i g).F = figG (zOf most l) rb i g from rfl, b3]; show _ = (((grpH (zOf most l) rb g).toNat : Nat) : Int); omega, by show 0 < (grpW (zOf most l) rb g).toNat; omega, by show 0 < (grpH (zOf most l) rb g).toNat; omega, ⟨_, hn, ?_⟩, endN_grp hp hd' hs⟩, ?_⟩
   ·show f.kind = 5 ↔ isRingG g = true
    constructor
    ·intro h5
     cases g with
     | tree t => exact absurd h5 (tree_kind5 hT ⟨f, 0⟩ (by show (Grp.tree t).flat.head? = _; rw [e]; rfl))
     | hon ks => exact hp.elim
     | ring ks => rfl
     | rhon ks => exact hp.elim
    ·intro h; rw [hf5 h]; rfl
   ·exact chain_grps r (i + g.flat.length) (fun x hx => hg x (by simp [hx])) (drop_add hd') (by
     have := congrArg List.length hd'
     simp at this
     omega)
end
section
variable {z : Sz} {G : Lf → Prop} (hz : SzB z G)
include hz
theorem ok_trees {ks : List Tree} {d : Int} (h : TreesOk G d ks) : Oks z d ks := TreesOk.ok (fun f hf => ⟨hz.w0 f hf, hz.h0 f hf⟩) d ks h
theorem ok_tree {t : Tree} {d : Int} (h : TreeOk G d t) : Ok z d t := TreeOk.ok (fun f hf => ⟨hz.w0 f hf, hz.h0 f hf⟩) d t h
theorem grp_in (rb : Bool) {g : Grp} (hp : isPlain g) (h : GrpOk G g) : ∀ q ∈ grpSq z rb g, 0 ≤ q.x ∧ q.x + q.w ≤ 4 * grpW z rb g ∧ 0 ≤ q.y ∧ q.y + q.h ≤ 4 * grpH z rb g := by
 cases g with
 | tree t =>
   obtain ⟨_, _, g3, g4⟩ := geo z t 0 0 0 (ok_tree hz h)
   intro q hq
   have a1 := g3.low _ (List.mem_map.2 ⟨q, hq, rfl⟩)
   have a2 := g3.high _ (List.mem_map.2 ⟨q, hq, rfl⟩)
   have a3 := g4.low _ (List.mem_map.2 ⟨q, hq, rfl⟩)
   have a4 := g4.high _ (List.mem_map.2 ⟨q, hq, rfl⟩)
   simp only [Sq.px, Sq.py] at a1 a2 a3 a4
   simp only [grpW, grpH]
   omega
 | hon ks => exact hp.elim
 | ring ks =>
   have hn : ks ≠ [] := by intro e; have := h.1; rw [e] at this; simp at this
   have hk := ok_trees hz h.2.2.2
   obtain ⟨i1, i2, i3, i4, i5, i6⟩ := in_bd hz rb hn h.2.2.2
   intro q hq
   simp only [grpSq, List.mem_cons] at hq
   simp only [grpW, grpH]
   rcases hq with rfl | hq
   ·simp only
    omega
   ·unfold inSq at hq
    cases rb
    ·rw [if_neg (by decide)] at hq
     obtain ⟨_, _, g3, g4, _⟩ := geoA z ks 1 20 (maxW z 1 ks) 48 48 hk hn (by decide) (Int.le_refl _)
     have a1 := g4.low _ (List.mem_map.2 ⟨q, hq, rfl⟩)
     have a2 := g4.high _ (List.mem_map.2 ⟨q, hq, rfl⟩)
     have a3 := g3.low _ (List.mem_map.2 ⟨q, hq, rfl⟩)
     have a4 := g3.high _ (List.mem_map.2 ⟨q, hq, rfl⟩)
     simp only [Sq.px, Sq.py] at a1 a2 a3 a4
     simp only [inW, inH, Bool.false_eq_true, if_false]
     omega
    ·rw [if_pos rfl] at hq
     obtain ⟨_, _, g3, g4, _⟩ := geoB z ks 1 20 (maxH z 1 ks) 48 48 hk hn (by decide) (Int.le_refl _)
     have a1 := g3.low _ (List.mem_map.2 ⟨q, hq, rfl⟩)
     have a2 := g3.high _ (List.mem_map.2 ⟨q, hq, rfl⟩)
     have a3 := g4.low _ (List.mem_map.2 ⟨q, hq, rfl⟩)
     have a4 := g4.high _ (List.mem_map.2 ⟨q, hq, rfl⟩)
     simp only [Sq.px, Sq.py] at a1 a2 a3 a4
     simp only [inW, inH, if_true]
     omega
 | rhon ks => exact hp.elim
end
structure PgOk (z : Sz) (G : Lf → Prop) (rb : Bool) (p : PG) : Prop where
 plain : isPlain p.g
 ok : GrpOk G p.g
 small : p.g.flat.length ≤ 200
 sc : p.s = scG z rb p.g
 l0 : 0 ≤ p.line
 l1 : p.line ≤ 400
 p0 : 0 ≤ p.pos
 p1 : p.pos ≤ 4800
section
variable {z : Sz} {G : Lf → Prop} (hz : SzB z G)
include hz
theorem scG_ok (rb : Bool) {g : Grp} (hp : isPlain g) (h : GrpOk G g) (hl : g.flat.length ≤ 200) : ScaleOk rb (isRingG g) (grpW z rb g).toNat (grpH z rb g).toNat (scG z rb g) := by
 obtain ⟨a1, a2, a3, a4, a5, a6⟩ := grp_bd hz rb hp h
 exact scale_ok rb (isRingG g) (by omega) (by omega) (by omega) (by omega) (by omega) (by omega)
theorem longG_pos (rb : Bool) {g : Grp} (hp : isPlain g) (h : GrpOk G g) (hl : g.flat.length ≤ 200) : 0 < longG z rb g := by
 obtain ⟨a1, a2, a3, a4, a5, a6⟩ := grp_bd hz rb hp h
 have hs := (scG_ok hz rb hp h hl).pos
 unfold longG
 have h1 : (0 : Rat) < (((if rb then (grpW z rb g).toNat else (grpH z rb g).toNat : Nat) : Int) : Rat) := by
  have : 0 < (if rb then (grpW z rb g).toNat else (grpH z rb g).toNat) := by cases rb <;> simp <;> omega
  exact_mod_cast this
 exact Rat.mul_pos hs h1
theorem stand_ok (rb : Bool) (L : Int) (hL : L ≤ 4800) : ∀ (gs : List Grp) (ln po : Int), (∀ g ∈ gs, isPlain g ∧ GrpOk G g ∧ g.flat.length ≤ 200) → 0 ≤ ln → ln + gs.length ≤ 400 → 0 ≤ po → ∀ p ∈ standL z rb L gs ln po, PgOk z G rb p
 | [], ln, po, hg, h0, h1, h2, p, hp => by simp [standL] at hp
 | g :: r, ln, po, hg, h0, h1, h2, p, hp => by
   obtain ⟨a1, a2, a3⟩ := hg g (by simp)
   have hl := longG_pos hz rb a1 a2 a3
   have hr := fun x hx => hg x (List.mem_cons_of_mem g hx)
   rw [List.length_cons] at h1
   have hce : ∀ n : Int, 0 ≤ n → 0 ≤ ((n : Rat) + longG z rb g).ceil := fun n hn => by
    have h3 : (0 : Rat) ≤ (n : Rat) + longG z rb g := Rat.add_nonneg (by exact_mod_cast hn) (Rat.le_of_lt hl)
    have h4 : (0 : Rat) ≤ ((((n : Rat) + longG z rb g).ceil : Int) : Rat) := Rat.le_trans h3 Rat.le_ceil
    exact_mod_cast h4
   unfold standL at hp
   by_cases hc : 0 < po ∧ (L : Rat) < (po : Rat) + longG z rb g
   ·rw [if_pos hc] at hp
    rcases List.mem_cons.1 hp with rfl | hp
    ·exact ⟨a1, a2, a3, rfl, by show 0 ≤ ln + 1; omega, by show ln + 1 ≤ 400; omega, Int.le_refl _, by show (0 : Int) ≤ 4800; decide⟩
    ·exact stand_ok rb L hL r (ln + 1) _ hr (by omega) (by omega) (hce _ (by omega)) p hp
   ·rw [if_neg hc] at hp
    have hpo : po ≤ 4800 := by
     rcases Int.lt_or_le 0 po with h | h
     ·have h3 : ¬ (L : Rat) < (po : Rat) + longG z rb g := fun e => hc ⟨h, e⟩
      have h4 : (po : Rat) ≤ (L : Rat) := by grind
      have h5 : po ≤ L := by exact_mod_cast h4
      omega
     ·omega
    rcases List.mem_cons.1 hp with rfl | hp
    ·exact ⟨a1, a2, a3, rfl, h0, by show ln ≤ 400; omega, h2, hpo⟩
    ·exact stand_ok rb L hL r ln _ hr h0 (by omega) (hce _ (by omega)) p hp
theorem corner (rb : Bool) {p : PG} (h : PgOk z G rb p) : ∃ ax bx ay by' : Int, pgX z rb p = (ax : Rat) + p.s * (bx : Rat) ∧ pgY z rb p = (ay : Rat) + p.s * (by' : Rat) ∧ 0 ≤ ax ∧ ax ≤ 30000 ∧ 0 ≤ ay ∧ ay ≤ 30000 ∧ -13000 ≤ bx ∧ bx ≤ 0 ∧ -13000 ≤ by' ∧ by' ≤ 0 := by
 obtain ⟨a1, a2, a3, a4, a5, a6⟩ := grp_bd hz rb h.plain h.ok
 have hsm := h.small
 have hl0 := h.l0; have hl1 := h.l1; have hp0 := h.p0; have hp1 := h.p1
 have key : ∀ (ln : Int) (n : Int), 0 ≤ n → (4 : Int) ∣ n → crossP ln (p.s * ((n : Int) : Rat)) = ((72 * ln + 24 : Int) : Rat) + p.s * ((-(n / 2) : Int) : Rat) := fun ln n h0 h4 => by
  obtain ⟨k, rfl⟩ := h4
  have e1 : (4 * k / 2 : Int) = 2 * k := by omega
  rw [e1]
  unfold crossP
  simp only [Rat.intCast_neg, Rat.intCast_mul, Rat.intCast_add]
  have e2 : ((1 : Int) : Rat) = 1 := rfl
  have e3 : ((2 : Nat) : Rat) = 2 := rfl
  have e4 : ((2 : Int) : Rat) = 2 := rfl
  have e5 : ((4 : Int) : Rat) = 4 := rfl
  have e6 : ((24 : Int) : Rat) = 24 := rfl
  simp only [e2, e3, e4, e5, e6]
  grind
 have z0 : ∀ n : Int, (n : Rat) = (n : Rat) + p.s * ((0 : Int) : Rat) := fun n => by
  have : ((0 : Int) : Rat) = 0 := rfl
  rw [this]; grind
 cases rb
 ·have e : acrG z false p.g = p.s * ((grpW z false p.g : Int) : Rat) := by
   unfold acrG
   rw [h.sc]
   have : (((if false then (grpH z false p.g).toNat else (grpW z false p.g).toNat : Nat)) : Int) = grpW z false p.g := by simp; omega
   rw [this]
  refine ⟨72 * p.line + 24, -(grpW z false p.g / 2), p.pos, 0, ?_, ?_, by omega, by omega, by omega, by omega, by omega, by omega, by omega, by omega⟩
  ·show crossP p.line (acrG z false p.g) = _
   rw [e]; exact key _ _ (by omega) a3
  ·exact z0 _
 ·have e : acrG z true p.g = p.s * ((grpH z true p.g : Int) : Rat) := by
   unfold acrG
   rw [h.sc]
   have : (((if true then (grpH z true p.g).toNat else (grpW z true p.g).toNat : Nat)) : Int) = grpH z true p.g := by simp; omega
   rw [this]
  refine ⟨p.pos, 0, 72 * p.line + 24, -(grpH z true p.g / 2), ?_, ?_, by omega, by omega, by omega, by omega, by omega, by omega, by omega, by omega⟩
  ·exact z0 _
  ·show crossP p.line (acrG z true p.g) = _
   rw [e]; exact key _ _ (by omega) a6
theorem pg_good (rb : Bool) {p : PG} (h : PgOk z G rb p) : ∀ b ∈ pgBoxes z rb p, good b = true := by
 obtain ⟨a1, a2, a3, a4, a5, a6⟩ := grp_bd hz rb h.plain h.ok
 have hsm := h.small
 have hsc := scG_ok hz rb h.plain h.ok h.small
 rw [← h.sc] at hsc
 obtain ⟨D, hD1, hD2, hs⟩ := hsc.form
 obtain ⟨ax, bx, ay, by', eX, eY, x1, x2, y1, y2, u1, u2, v1, v2⟩ := corner hz rb h
 intro b hb
 obtain ⟨q, hq, rfl⟩ := List.mem_map.1 hb
 obtain ⟨q1, q2, q3, q4⟩ := grp_in hz rb h.plain h.ok q hq
 have f4 := grp4 hz rb h.plain h.ok q hq
 obtain ⟨⟨kx, ex⟩, ⟨ky, ey⟩, ⟨kw, ew⟩, ⟨kh, eh⟩, w0, h0⟩ := f4
 have e4 : ∀ k : Int, p.s / 4 * ((4 * k : Int) : Rat) = p.s * (k : Rat) := fun k => by
  rw [Rat.intCast_mul]
  have : ((4 : Int) : Rat) = 4 := rfl
  rw [this]; grind
 have vx : (aff (p.s / 4) (pgX z rb p) (pgY z rb p) q).x = (ax : Rat) + 12 / (D : Rat) * ((bx + kx : Int) : Rat) := by
  show pgX z rb p + p.s / 4 * (q.x : Rat) = _
  rw [eX, ex, e4, ← hs, Rat.intCast_add]; grind
 have vy : (aff (p.s / 4) (pgX z rb p) (pgY z rb p) q).y = (ay : Rat) + 12 / (D : Rat) * ((by' + ky : Int) : Rat) := by
  show pgY z rb p + p.s / 4 * (q.y : Rat) = _
  rw [eY, ey, e4, ← hs, Rat.intCast_add]; grind
 have z0 : ((0 : Int) : Rat) = 0 := rfl
 have vw : (aff (p.s / 4) (pgX z rb p) (pgY z rb p) q).w = ((0 : Int) : Rat) + 12 / (D : Rat) * ((kw : Int) : Rat) := by
  show p.s / 4 * (q.w : Rat) = _
  rw [ew, e4, ← hs, z0]; grind
 have vh : (aff (p.s / 4) (pgX z rb p) (pgY z rb p) q).h = ((0 : Int) : Rat) + 12 / (D : Rat) * ((kh : Int) : Rat) := by
  show p.s / 4 * (q.h : Rat) = _
  rw [eh, e4, ← hs, z0]; grind
 have pw : 0 < (aff (p.s / 4) (pgX z rb p) (pgY z rb p) q).w := by
  show 0 < p.s / 4 * (q.w : Rat)
  exact Rat.mul_pos (quarter_pos hsc.pos) (by exact_mod_cast w0)
 have ph : 0 < (aff (p.s / 4) (pgX z rb p) (pgY z rb p) q).h := by
  show 0 < p.s / 4 * (q.h : Rat)
  exact Rat.mul_pos (quarter_pos hsc.pos) (by exact_mod_cast h0)
 have vxw : (aff (p.s / 4) (pgX z rb p) (pgY z rb p) q).x + (aff (p.s / 4) (pgX z rb p) (pgY z rb p) q).w = (ax : Rat) + 12 / (D : Rat) * ((bx + kx + kw : Int) : Rat) := by
  rw [vx, vw, z0, Rat.intCast_add (bx + kx)]; grind
 have vyh : (aff (p.s / 4) (pgX z rb p) (pgY z rb p) q).y + (aff (p.s / 4) (pgX z rb p) (pgY z rb p) q).h = (ay : Rat) + 12 / (D : Rat) * ((by' + ky + kh : Int) : Rat) := by
  rw [vy, vh, z0, Rat.intCast_add (by' + ky)]; grind
 unfold good placedP
 rw [vxw, vyh, vx, vy]
 simp only [Bool.and_eq_true, decide_eq_true_eq]
 refine ⟨⟨⟨⟨?_, ?_⟩, ?_⟩, ?_⟩, ⟨⟨pw, ph⟩, ?_⟩, ?_⟩
 ·exact vld_form hD1 hD2 (by omega) (by omega)
 ·exact vld_form hD1 hD2 (by omega) (by omega)
 ·rw [vw]; exact vld_form hD1 hD2 (by omega) (by omega)
 ·rw [vh]; exact vld_form hD1 hD2 (by omega) (by omega)
 ·exact vld_form hD1 hD2 (by omega) (by omega)
 ·exact vld_form hD1 hD2 (by omega) (by omega)
end
theorem vld_neg {q : Rat} (h : vld q = true) : vld (-q) = true := by
 have e1 : (-q).den = q.den := rfl
 have e2 : (-q).num = -q.num := rfl
 unfold vld at h ⊢
 rw [e1, e2]
 simp only [Bool.and_eq_true, decide_eq_true_eq] at h ⊢
 omega
theorem good.turned {b : PB} (h : good b = true) (way : Int) : good (turnedP b way) = true := by
 unfold turnedP
 split
 ·unfold good placedP at h ⊢
  simp only [Bool.and_eq_true, decide_eq_true_eq] at h ⊢
  obtain ⟨⟨⟨⟨h1, h2⟩, h3⟩, h4⟩, ⟨⟨h5, h6⟩, h7⟩, h8⟩ := h
  have e : -(b.x + b.w) + b.w = -b.x := by grind
  refine ⟨⟨⟨⟨vld_neg h7, h2⟩, h3⟩, h4⟩, ⟨⟨h5, h6⟩, ?_⟩, h8⟩
  rw [e]; exact vld_neg h1
 ·exact h
theorem turned_turned (b : PB) (way : Int) : turnedP (turnedP b way) way = b := by
 unfold turnedP
 by_cases h : way % 2 = 0
 ·simp only [h, if_true]
  obtain ⟨lf, x, y, w, h'⟩ := b
  simp only [PB.mk.injEq, true_and, and_true]
  grind
 ·simp only [h, if_false]
end Go.Proofs.OGW
namespace Go.Proofs.OGW
open Go.RowKit Go.Sort OG Go.Shelf Go.PlainAid
attribute [local go_sem] sA fv sB sG sC Nat.zero_add
attribute [local go_sem ↓] ld66 ld51 st66 st51
theorem All2.left {α β : Type} {R : α → β → Prop} : ∀ {l : List α} {m : List β}, All2 R l m → ∀ a ∈ l, ∃ b ∈ m, R a b
 | a :: l, b :: m, h, x, hx => by
   rcases List.mem_cons.1 hx with rfl | hx
   ·exact ⟨b, by simp, h.1⟩
   ·obtain ⟨y, hy, hr⟩ := All2.left h.2 x hx
    exact ⟨y, by simp [hy], hr⟩
 | [], _, _, x, hx => by cases hx
 | a :: l, [], h, _, _ => h.elim
theorem All2.len {α β : Type} {R : α → β → Prop} : ∀ {l : List α} {m : List β}, All2 R l m → l.length = m.length
 | [], [], _ => rfl
 | a :: l, b :: m, h => by rw [List.length_cons, List.length_cons, All2.len h.2]
 | [], b :: m, h => h.elim
 | a :: l, [], h => h.elim
mutual
theorem place_len (z : Sz) : ∀ (t : Tree) (d x y : Int), (place z d t x y).length ≤ (flat d t).length
 | .leaf l, d, x, y => Nat.le_refl _
 | .over a b, d, x, y => by simp [place, flat]
 | .beside ks, d, x, y => by simp only [place, flat, List.length_cons]; exact Nat.le_succ_of_le (placeB_len z ks (d + 1) (sp d) _ x y)
 | .above ks, d, x, y => by simp only [place, flat, List.length_cons]; exact Nat.le_succ_of_le (placeA_len z ks (d + 1) (sp d) _ x y)
theorem placeB_len (z : Sz) : ∀ (ks : List Tree) (d s m x y : Int), (placeB z s d m ks x y).length ≤ (flats d ks).length
 | [], d, s, m, x, y => Nat.le_refl _
 | t :: r, d, s, m, x, y => by
   have h1 := place_len z t d x (y + 2 * (m - natH z d t))
   have h2 := placeB_len z r d s m (x + 4 * (natW z d t + s)) y
   simp only [placeB, flats, List.length_append]
   omega
theorem placeA_len (z : Sz) : ∀ (ks : List Tree) (d s m x y : Int), (placeA z s d m ks x y).length ≤ (flats d ks).length
 | [], d, s, m, x, y => Nat.le_refl _
 | t :: r, d, s, m, x, y => by
   have h1 := place_len z t d (x + 2 * (m - natW z d t)) y
   have h2 := placeA_len z r d s m x (y + 4 * (natH z d t + s))
   simp only [placeA, flats, List.length_append]
   omega
end
theorem grpSq_len (z : Sz) (rb : Bool) (g : Grp) : (grpSq z rb g).length ≤ g.flat.length := by
 cases g with
 | tree t => exact place_len z t 0 0 0
 | hon ks => simp [grpSq]
 | ring ks =>
   simp only [grpSq, Grp.flat, List.length_cons]
   have h1 := placeB_len z ks 1 20 (maxH z 1 ks) 48 48
   have h2 := placeA_len z ks 1 20 (maxW z 1 ks) 48 48
   unfold inSq
   split <;> omega
 | rhon ks => simp [grpSq]
theorem layL_len (z : Sz) (rb : Bool) (way L : Int) : ∀ (gs : List Grp) (ln po : Int), ((standL z rb L gs ln po).flatMap fun p => (pgBoxes z rb p).map fun b => turnedP b way).length ≤ (flatG gs).length
 | [], ln, po => Nat.le_refl _
 | g :: r, ln, po => by
   have h1 := grpSq_len z rb g
   unfold standL
   split
   ·rw [List.flatMap_cons, List.length_append, flatG, List.length_append, List.length_map, pgBoxes, List.length_map]
    have := layL_len z rb way L r (ln + 1) (((0 + 24 : Int) : Rat) + longG z rb g).ceil
    show (grpSq z rb g).length + _ ≤ _
    omega
   ·rw [List.flatMap_cons, List.length_append, flatG, List.length_append, List.length_map, pgBoxes, List.length_map]
    have := layL_len z rb way L r ln (((po + 24 : Int) : Rat) + longG z rb g).ceil
    show (grpSq z rb g).length + _ ≤ _
    omega
theorem tZ56 {P : Prop} (h : P := by
 rcases List.mem_cons.1 hm with rfl | hm
 ·exact key _ _ (hg _ (by simp))
 ·exact spots_vld z rb L ns r (i + g.flat.length) _ _ (fun x hx => hp x (by simp [hx])) (drop_add hd') (fun p hp => hg p (List.mem_cons_of_mem _ hp)) p hm) : P := h
theorem spots_vld (z : Sz) (rb : Bool) (L : Int) (ns : List Nd) : ∀ (gs : List Grp) (i : Nat) (ln po : Int), (∀ g ∈ gs, isPlain g) → ns.drop i = flatG gs → (∀ p ∈ standL z rb L gs ln po, ∀ b ∈ pgBoxes z rb p, good b = true) →
 ∀ p ∈ (standsP L rb (gisOf z rb i gs) ln po).zip (gisOf z rb i gs), ∀ q ∈ spots p.2.F 0 0, (∃ n, ns[q.node.toNat]? = some n) ∧ 0 ≤ q.node ∧
  vld (spotBox ns p.1.s (if rb then (p.1.pos : Rat) else crossP p.1.line (p.2.across rb)) (if rb then crossP p.1.line (p.2.across rb) else (p.1.pos : Rat)) q).x = true ∧
  vld (spotBox ns p.1.s (if rb then (p.1.pos : Rat) else crossP p.1.line (p.2.across rb)) (if rb then crossP p.1.line (p.2.across rb) else (p.1.pos : Rat)) q).w = true
 | [], i, ln, po, hp, hd, hg, p, hm => by simp [gisOf, standsP] at hm
 | g :: r, i, ln, po, hp, hd, hg, p, hm => by
   have hd' : ns.drop i = g.flat ++ flatG r := hd
   have hs := spots_grp z rb ns g i (flatG r) (hp g (by simp)) hd'
   have key : ∀ (ln po : Int), (∀ b ∈ pgBoxes z rb ⟨g, scG z rb g, ln, po⟩, good b = true) → ∀ q ∈ spots (figG z rb i g) 0 0, (∃ n, ns[q.node.toNat]? = some n) ∧ 0 ≤ q.node ∧
    vld (spotBox ns (scG z rb g) (pgX z rb ⟨g, scG z rb g, ln, po⟩) (pgY z rb ⟨g, scG z rb g, ln, po⟩) q).x = true ∧ vld (spotBox ns (scG z rb g) (pgX z rb ⟨g, scG z rb g, ln, po⟩) (pgY z rb ⟨g, scG z rb g, ln, po⟩) q).w = true := fun ln po hb q hq => by
    obtain ⟨sq, hsq, hsame⟩ := All2.left hs q hq
    have hgd := hb _ (List.mem_map.2 ⟨sq, hsq, rfl⟩)
    rw [spotBox_aff ns _ _ _ q sq hsame]
    obtain ⟨h0, h1, _⟩ := hsame
    unfold good at hgd
    simp only [Bool.and_eq_true] at hgd
    refine ⟨?_, h0, hgd.1.1.1.1, hgd.1.1.2⟩
    cases hn : ns[q.node.toNat]? with
    | none => rw [hn] at h1; simp at h1
    | some n => exact ⟨n, rfl⟩
   have el : (giOf z rb i g).long rb = longG z rb g := rfl
   have es : (giOf z rb i g).sc rb = scG z rb g := rfl
   simp only [gisOf, standsP] at hm
   rw [el, es] at hm
   unfold standL at hg
   by_cases hc : 0 < po ∧ (L : Rat) < (po : Rat) + longG z rb g
   ·rw [if_pos hc] at hm hg
    rw [List.zip_cons_cons] at hm
    exact tZ56
   ·rw [if_neg hc] at hm hg
    rw [List.zip_cons_cons] at hm
    exact tZ56
structure TxOk (most : Int) (l : List Sg) (G : Lf → Prop) (gs : List Grp) : Prop where
 lf : ∀ f, G f → LfB most l f
 sz : SzB (zOf most l) G
 grp : ∀ g ∈ gs, isPlain g ∧ GrpOk G g
 len : (flatG gs).length ≤ 200
theorem flatG_mem : ∀ {gs : List Grp} {g : Grp}, g ∈ gs → g.flat.length ≤ (flatG gs).length
 | x :: r, g, h => by
   rw [flatG, List.length_append]
   rcases List.mem_cons.1 h with rfl | h
   ·omega
   ·have := flatG_mem h; omega
theorem grp_len {g : Grp} (h : isPlain g) : 1 ≤ g.flat.length := by
 obtain ⟨f, tl, e, _⟩ := grp_cons h
 rw [e]; simp
theorem flatG_len : ∀ {gs : List Grp}, (∀ g ∈ gs, isPlain g) → gs.length ≤ (flatG gs).length
 | [], _ => Nat.le_refl _
 | x :: r, h => by
   have h1 := grp_len (h x (by simp))
   have h2 := flatG_len (gs := r) (fun g hg => h g (by simp [hg]))
   rw [flatG, List.length_append, List.length_cons]
   omega
theorem TxOk.pg {most : Int} {l : List Sg} {G : Lf → Prop} {gs : List Grp} (h : TxOk most l G gs) (rb : Bool) {L : Int} (hL : L ≤ 4800) : ∀ p ∈ standL (zOf most l) rb L gs 0 0, PgOk (zOf most l) G rb p := by
 have h1 := flatG_len (fun g hg => (h.grp g hg).1)
 have h2 := h.len
 exact stand_ok h.sz rb L hL gs 0 0 (fun g hg => ⟨(h.grp g hg).1, (h.grp g hg).2, by have := flatG_mem hg; omega⟩) (by omega) (by omega) (by omega)
theorem boxes_call (most : Int) (SA : Option Addr) (sn sc : Nat) (A : Option Addr) (len c : Nat) (l : List Sg) (G : Lf → Prop) (gs : List Grp) (way L : Int) (w : World) (hE : LayEnv w most SA sn sc A len c l (flatG gs)) (hT : TxOk most l G gs)
 (hw0 : 0 ≤ way) (hw1 : way ≤ 1000) (hL0 : 0 ≤ L) (hL : L ≤ 4800) (rb : Bool) :
 ∀ w1, Gr w w1 → Calls Tryz.prog 48 #[layv most SA sn sc A len c rb, pgv way L] w1 fun e w' => ∃ v', e = .returned v' ∧ OwnX w' w1.heap.size v' (layP (zOf most l) rb way L gs) ∧ Gr w1 w' := by
 have hpl := fun g hg => (hT.grp g hg).1
 have h1 := flatG_len hpl
 have h2 := hT.len
 have hch := chain_grps most SA sn sc A len c rb l (flatG gs) w hE G hT.lf hT.sz gs 0 (fun g hg => ⟨(hT.grp g hg).1, (hT.grp g hg).2, by have := flatG_mem hg; omega⟩) (by simp) (Nat.zero_le _)
 have hb := boxesP_lay (zOf most l) rb way L gs hpl
 have hV := spots_vld (zOf most l) rb L (flatG gs) gs 0 0 0 hpl (by simp) (fun p hp => pg_good hT.sz rb (hT.pg rb hL p hp))
 have hcnt := layL_len (zOf most l) rb way L gs 0 0
 cases rb
 ·have := boxes_cols most SA sn sc A len c l (flatG gs) w hE (gisOf (zOf most l) false 0 gs) hch way L hw0 hw1 hL0 hL (by rw [gisOf_len]; omega) hV (by rw [hb]; unfold layP; omega)
  rw [hb] at this
  exact this
 ·have := boxes_rows most SA sn sc A len c l (flatG gs) w hE (gisOf (zOf most l) true 0 gs) hch way L hw0 hw1 hL0 hL (by rw [gisOf_len]; omega) hV (by rw [hb]; unfold layP; omega)
  rw [hb] at this
  exact this
theorem OwnX.lower {w : World} {B B' : Nat} {v : Value} {ps : List PB} (h : OwnX w B v ps) (hB : B' ≤ B) : OwnX w B' v ps :=
 ⟨h.1, h.2.imp id fun ⟨g, cap, cur, e, hb, rest⟩ => ⟨g, cap, cur, e, Nat.le_trans hB hb, rest⟩⟩
set_option maxRecDepth 100000 in
set_option maxHeartbeats 4000000 in
theorem lay_ok (most : Int) (SA : Option Addr) (sn sc : Nat) (A : Option Addr) (len c : Nat) (l : List Sg) (ns : List Nd) (G : Lf → Prop) (gs : List Grp) (way L : Int) (w : World) (hE : LayEnv w most SA sn sc A len c l ns) (h0 : checkP most l ns = 0) (hp : pageE way L = 0)
 (hpl : plainP 0 ns = flatG gs) (hT : TxOk most l G gs) (hw0 : 0 ≤ way) (hw1 : way ≤ 1000) (hL0 : 0 ≤ L) (hL : L ≤ 4800) :
 Calls Tryz.prog 21 #[lv most SA sn sc, tv A len c, pgv way L] w fun e w' => ∃ v, e = .returned (.tuple #[v, .int .i64 0]) ∧ OwnX w' w.heap.size v (layP (zOf most l) (decide (way ≤ 2)) way L gs) ∧ Below w.heap.size w w' := by
 have hlen := hT.len
 have hb := begin_ok most SA sn sc A len c l ns way L (((w.alloc (.cells #[.int .i64 most, .slice SA sn sc] 24)).alloc (.cells #[.slice A len c] 33)).alloc (.cells #[.int .i64 way, .int .i64 L] 27)) (hE.gr ((((Gr.refl w).alloc _).alloc _).alloc _)) h0 hp (by rw [hpl]; omega)
 rw [hpl] at hb
 have HB := hiD hb
 obtain ⟨rb, hrb⟩ : ∃ rb, rb = decide (way ≤ 2) := ⟨_, rfl⟩
 rw [← hrb] at HB ⊢
 have HSG := hiD hE.sg
 have HSL := hiD hE.sl
 have hsb := hE.sb
 obtain ⟨m, hm⟩ : ∃ m, m = (flatG gs).length := ⟨_, rfl⟩
 rw [← hm] at HB hlen
 have HM := hiD hm
 have HT := hiD hT
 obtain ⟨ps, hps⟩ : ∃ ps, ps = layP (zOf most l) rb way L gs := ⟨_, rfl⟩
 rw [← hps]
 have HPS := hiD hps
 clear hE hb h0 hp hpl hrb hm hT hps
 go_enter Tryz.func21, Tryz.ntmps21
 go_upto_region 2 with (go_at_call 65; refine HB.out.mono ?_; rintro e w1 ⟨A', c', rfl, hN, hgw⟩; have HN := hiD hN; have HG := hiD hgw; clear hgw hN)
 have hgw := HG.out
 have m2 := bel_cell (p := ⟨w.heap.size + 2, 0, none⟩) (v := .int .i64 way) hgw (by go_simp)
 have m3 := bel_cell (p := ⟨w.heap.size + 2, 1, none⟩) (v := .int .i64 L) hgw (by go_simp)
 have n2 := lcc w1 _ m2
 have hbw : Below w.heap.size w w1 := ((((Gr.refl w).alloc _).alloc _).alloc _).b.trans (hgw.mono (by simp; omega))
 have hE1 : LayEnv w1 most SA sn sc A' m c' l (flatG gs) := ⟨HSG.out.below hbw, HSL.out, hsb, HN.out, HM.out.symm, by omega⟩
 have hbx := boxes_call most SA sn sc A' m c' l G gs way L w1 hE1 HT.out hw0 hw1 hL0 hL rb
 rw [← HPS.out] at hbx
 have HBX := hiD hbx
 have HBW := hiD hbw
 clear hgw hbw HG HB hE1 hbx
 go_wp2_with (go_at_call 48; refine (HBX.out _ gw).mono ?_; rintro e w2 ⟨v, rfl, hO, hgw⟩; have HO := hiD hO; have HG2 := hiD hgw; clear hgw hO)
 go_ret2
 exact ⟨_, rfl, HO.out.lower (by simp; omega), HBW.out.trans ((show Gr w1 _ from (show Gr w1 _ from gw).trans HG2.out).b.mono HBW.out.size)⟩
set_option maxRecDepth 100000 in
set_option maxHeartbeats 4000000 in
theorem lay_page (most : Int) (SA : Option Addr) (sn sc : Nat) (A : Option Addr) (len c : Nat) (l : List Sg) (ns : List Nd) (way L : Int) (w : World) (hE : LayEnv w most SA sn sc A len c l ns) (h0 : checkP most l ns = 0) (hp : pageE way L ≠ 0) :
 Calls Tryz.prog 21 #[lv most SA sn sc, tv A len c, pgv way L] w fun e w' => e = .returned (.tuple #[.slice none 0 0, .int .i64 (pageE way L)]) ∧ Below w.heap.size w w' := by
 have hb := begin_page most SA sn sc A len c l ns way L (((w.alloc (.cells #[.int .i64 most, .slice SA sn sc] 24)).alloc (.cells #[.slice A len c] 33)).alloc (.cells #[.int .i64 way, .int .i64 L] 27)) (hE.gr ((((Gr.refl w).alloc _).alloc _).alloc _)) h0 hp
 have HB := hiD hb
 obtain ⟨pe, hpe⟩ : ∃ pe, pe = pageE way L := ⟨_, rfl⟩
 rw [← hpe] at HB hp ⊢
 have d0 : (pe != 0) = true := by simp [hp]
 clear hE hb h0 hp hpe
 go_enter Tryz.func21, Tryz.ntmps21
 go_wp2_with (go_at_call 65; refine HB.out.mono ?_; rintro e w1 ⟨rfl, hgw⟩; have HG := hiD hgw; clear hgw)
 go_ret2
 have hbw : Below w.heap.size w w1 := ((((Gr.refl w).alloc _).alloc _).alloc _).b.trans (HG.out.mono (by simp; omega))
 exact ⟨rfl, hbw.trans ((show Gr w1 _ from gw).b.mono hbw.size)⟩
end Go.Proofs.OGW
