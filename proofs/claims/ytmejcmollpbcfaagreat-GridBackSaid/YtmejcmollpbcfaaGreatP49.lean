import Derived.Test.YtmejcmollpbcfaaGreatP33
import Derived.Test.YtmejcmollpbcfaaGreatP47
set_option linter.all false
namespace Go.Proofs.OGW
open Go.RowKit Go.Sort OG Go.Shelf Go.PlainAid
attribute [local go_sem] sA fv sB sG sC Nat.zero_add
attribute [local go_sem ↓] ld66 ld51 st66 st51
def lineK (way : Int) (b : PB) : Int := (fr (!decide (way ≤ 2)) b * ((1 : Int) : Rat) / ((72 : Nat) : Rat)).floor
def lineBad (way : Int) (b : PB) : Bool := decide (lineK way b < 0) || decide (200 < lineK way b)
def lineAt (way : Int) (ts : List PB) (k : Int) : List PB := ts.filter (fun b => decide (lineK way b = k))
def mostK (way : Int) (ts : List PB) : Int := ts.foldl (fun m b => max m (lineK way b)) (-1)
def g24 (a : Rat) : Bool := decide (24 ≤ a)
def LineR (most : Int) (l : List Sg) (way : Int) (ts : List PB) (k : Int) (r : Option (List Nd)) : Prop :=
 ∃ p, SplitR (decide (way ≤ 2)) g24 (lineAt way ts k) p ∧ AllR (GuessR most l (decide (way ≤ 2))) p r
def LinesR (most : Int) (l : List Sg) (way : Int) (ts : List PB) : Int → Nat → Option (List Nd) → Prop
 | _, 0, r => r = some []
 | k, n + 1, r => ∃ q, LineR most l way ts k q ∧ match q with
   | none => r = none
   | some x => ∃ r2, LinesR most l way ts (k + 1) n r2 ∧ r = r2.map (x ++ ·)
def AgainR (most : Int) (l : List Sg) (way L : Int) (xs : List PB) (ms : List Nd) (er : Int) (ns : List Nd) : Prop :=
 if checkP most l ms ≠ 0 then er = 41 ∧ ns = [] else
  ∃ G gs ys zs, flatG gs = ms ∧ TxOk most l G gs ∧ ys.Perm (layP (zOf most l) (decide (way ≤ 2)) way L gs) ∧ Srt totalC ys ∧ zs.Perm xs ∧ Srt totalC zs ∧ ((ys = zs ∧ er = 0 ∧ ns = ms) ∨ (ys ≠ zs ∧ er = 41 ∧ ns = []))
def ReadR (most : Int) (l : List Sg) (way L : Int) (bs : List RBox) (er : Int) (ns : List Nd) : Prop :=
 if listE most l ≠ 0 then er = listE most l ∧ ns = [] else if pageE way L ≠ 0 then er = pageE way L ∧ ns = [] else if checkB bs ≠ 0 then er = checkB bs ∧ ns = [] else
  ∃ xs : List PB, bs = xs.map raw ∧ (∀ x ∈ xs, good x = true) ∧
   if (xs.map (turnedP · way)).any (lineBad way) = true then er = 41 ∧ ns = [] else
    ∃ r, LinesR most l way (xs.map (turnedP · way)) 0 (mostK way (xs.map (turnedP · way)) + 1).toNat r ∧
     match r with
     | none => er = 41 ∧ ns = []
     | some ms => AgainR most l way L xs ms er ns
def ReadPost (W : World) (R : Int → List Nd → Prop) (e : Ending) (W' : World) : Prop :=
 ∃ er ns v, R er ns ∧ e = .returned (.tuple #[.agg #[v], .int .i64 er]) ∧ OwnN W' W.heap.size v ns ∧ Below W.heap.size W W'
theorem bs_good {bs : List RBox} (h : checkB bs = 0) : bs.length ≤ 200 ∧ ∃ xs : List PB, bs = xs.map raw ∧ ∀ x ∈ xs, good x = true := by
 unfold checkB at h
 split at h
 ·cases h
 ·rename_i hl
  refine ⟨by omega, ?_⟩
  split at h
  ·rename_i hp
   rw [List.all_eq_true] at hp
   refine ⟨bs.map RBox.rat, ?_, ?_⟩
   ·rw [List.map_map]
    conv => lhs; rw [← List.map_id bs]
    refine List.map_congr_left fun b hb => ?_
    have h1 := hp b hb
    simp only [RBox.placed, Bool.and_eq_true] at h1
    exact (RBox.raw_rat h1.1).1.symm
   ·intro x hx
    obtain ⟨b, hb, rfl⟩ := List.mem_map.1 hx
    have h1 := hp b hb
    simp only [RBox.placed, Bool.and_eq_true] at h1
    obtain ⟨_, v1, v2, v3, v4⟩ := RBox.raw_rat h1.1
    simp [good, v1, v2, v3, v4, h1.2]
  ·cases h
theorem page_bd {way L : Int} (h : pageE way L = 0) : 1 ≤ way ∧ way ≤ 4 ∧ 48 ≤ L ∧ L ≤ 4800 := by
 unfold pageE pageOk at h
 by_cases h2 : 1 ≤ way ∧ way ≤ 4 ∧ 48 ≤ L ∧ L ≤ 4800
 ·exact h2
 ·exfalso
  revert h
  simp only [Bool.and_eq_true, decide_eq_true_eq]
  split
  ·intro _; omega
  ·intro h; cases h
theorem mks_bd (m : Int) (d : Nat) (hp : 0 < d) (N : Int) (h1 : -N ≤ m) (h2 : m ≤ N) : -N ≤ (mkRat m d).num ∧ (mkRat m d).num ≤ N ∧ (mkRat m d).den ≤ d := by
 rw [Rat.num_mkRat, Rat.den_mkRat, if_neg (by omega), if_neg (by omega)]
 have hg : (0 : Int) < (d.gcd m.natAbs : Nat) := by
  have := Nat.gcd_pos_of_pos_left m.natAbs hp
  omega
 refine ⟨?_, ?_, Nat.div_le_self _ _⟩
 all_goals
  generalize (d.gcd m.natAbs : Nat) = g at hg ⊢
  have hN : 0 ≤ N := by omega
  have : N * 1 ≤ N * (g : Int) := Int.mul_le_mul_of_nonneg_left (by omega) hN
 ·refine Int.le_ediv_of_mul_le hg ?_
  rw [Int.neg_mul]
  omega
 ·refine Int.ediv_le_of_le_mul hg ?_
  omega
theorem divs_bd (q : Rat) (n : Nat) (h : 0 < n) (N : Int) (h1 : -N ≤ q.num) (h2 : q.num ≤ N) : -N ≤ (q * ((1 : Int) : Rat) / (n : Rat)).num ∧ (q * ((1 : Int) : Rat) / (n : Rat)).num ≤ N := by
 have e : q * ((1 : Int) : Rat) / (n : Rat) = mkRat q.num (q.den * n) := by
  exact tZ41
 have := mks_bd q.num (q.den * n) (Nat.mul_pos q.den_pos h) N h1 h2
 rw [e]
 exact ⟨this.1, this.2.1⟩
theorem lineK_bd {way : Int} {b : PB} (h : vld (fr (!decide (way ≤ 2)) b) = true) : Ans 39 #[fv (fr (!decide (way ≤ 2)) b), .int .i64 1, .int .i64 72] (fv (fr (!decide (way ≤ 2)) b * ((1 : Int) : Rat) / ((72 : Nat) : Rat))) ∧ Ans 38 #[fv (fr (!decide (way ≤ 2)) b * ((1 : Int) : Rat) / ((72 : Nat) : Rat))] (.int .i64 (lineK way b)) := by
 obtain ⟨v1, v2, v3⟩ := vld_bd h
 refine ⟨times_call _ 1 72 (by decide) (by omega) (by omega) (by omega), floor_call _ ?_ ?_⟩
 ·have := (divs_bd (fr (!decide (way ≤ 2)) b) 72 (by decide) 4611686018427387904 (by omega) (by omega)).1; exact this
 ·have := (divs_bd (fr (!decide (way ≤ 2)) b) 72 (by decide) 4611686018427387904 (by omega) (by omega)).2; exact this
theorem read_bad {W w6 : World} {R : Int → List Nd → Prop} {u : Value} {t : Array Value} (hB : Below W.heap.size W w6) (h0 : w6.cell? ⟨W.heap.size + 2, 0, none⟩ = some u) (er : Int)
 (t6 : t.getD 6 undef = .pointer (some ⟨W.heap.size + 2, 0, none⟩)) (t7 : t.getD 7 undef = .int .i64 er) (hR : R er []) :
 bodyPost Tryz.prog Tryz.f11 (ReadPost W R) Exit.ret { tmps := t, defers := [] } (w6.setCell ⟨W.heap.size + 2, 0, none⟩ (.slice none 0 0)) := by
 refine bodyPost_ret (res33t Tryz.results11 t6 t7 (World.cell?_setCell_same' _ _ _ (by rw [h0]; rfl))) rfl ⟨er, [], _, hR, rfl, OwnN.nil _ _, ?_⟩
 exact hB.setCell (p := ⟨W.heap.size + 2, 0, none⟩) (Nat.le_add_right _ _) _
theorem readR_bad {most : Int} {l : List Sg} {way L : Int} {xs : List PB} (he : listE most l = 0 ∧ pageE way L = 0 ∧ checkB (xs.map raw) = 0) (hg : ∀ x ∈ xs, good x = true) (hb : (xs.map (turnedP · way)).any (lineBad way) = true) : ReadR most l way L (xs.map raw) 41 [] := by
 unfold ReadR
 rw [if_neg (by simp [he.1]), if_neg (by simp [he.2.1]), if_neg (by simp [he.2.2])]
 exact ⟨xs, rfl, hg, by rw [if_pos hb]; exact ⟨rfl, rfl⟩⟩
theorem lineAt_snoc (way : Int) (ts : List PB) (t : PB) : (fun j => if j = lineK way t then lineAt way ts (lineK way t) ++ [t] else lineAt way ts j) = lineAt way (ts ++ [t]) := by
 funext j
 unfold lineAt
 rw [List.filter_append]
 by_cases h : j = lineK way t
 ·subst h; simp
 ·have : decide (lineK way t = j) = false := by simpa using fun e => h e.symm
  simp [h, this]
theorem ap24 (W : World) : Ap W 43 #[] g24 where
 ent := ent_of Tryz.func43 (by kernel_rfl) rfl
 call := fun a b w ha hb _ _ => by
  obtain ⟨a1, a2, a3⟩ := vld_bd ha
  obtain ⟨b1, b2, b3⟩ := vld_bd hb
  have p := prod_bd (N := 2147483647) (D := 32768) a1 a2 b3
  have q := prod_bd (N := 2147483647) (D := 32768) b1 b2 a3
  have hd : a.den * b.den ≤ 32768 * 32768 := Nat.mul_le_mul a3 b3
  have := mks_bd (a.num * b.den - b.num * a.den) (a.den * b.den) (Nat.mul_pos a.den_pos b.den_pos) (2 * (2147483647 * 32768)) (by omega) (by omega)
  rw [← Rat.sub_def'] at this
  exact readGap_call (a - b) (by omega) (by omega) (by omega) w
theorem guess_ne {most : Int} {l : List Sg} {ac : Bool} {xs : List PB} {ns : List Nd} (h : GuessR most l ac xs (some ns)) : ns ≠ [] := by
 have hc : ∀ (s : Rat) (f : Nat) (d : Int) (xs : List PB), CutR s f d xs (some ns) → ns ≠ [] := by
  intro s f d xs h e
  subst e
  have hdiv : ∀ (C : List PB → Option (List Nd) → Prop) (l : List PB), DivR C s d l (some []) → False := by
   intro C l h
   obtain ⟨p, _, h⟩ := h
   split at h
   ·obtain ⟨q, _, h⟩ := h
    cases q <;> simp at h
   ·obtain ⟨p', _, h⟩ := h
    split at h
    ·obtain ⟨q, _, h⟩ := h
     cases q <;> simp at h
    ·cases h
  cases f with
  | zero => simp [CutR] at h
  | succ f =>
    match xs, h with
    | [], h => exact hdiv _ _ h
    | [b], h => simp [CutR] at h
    | [a, b], h =>
      simp only [CutR] at h
      split at h
      ·simp [OverN] at h
      ·split at h
       ·simp [OverN] at h
       ·exact hdiv _ _ h
    | a :: b :: c :: r, h => exact hdiv _ _ h
 unfold GuessR at h
 split at h
 ·cases h
 ·split at h
  ·obtain ⟨p, q, _, _, h⟩ := h
   cases q with
   | none => cases h
   | some q => simp at h; rw [h]; simp
  ·exact hc _ _ _ _ h
theorem AllR.app {C : List PB → Option (List Nd) → Prop} {p : List PB} {ps : List (List PB)} {ns : List Nd} (h : C p (some ns)) {q : Option (List Nd)} (hq : AllR C ps q) : AllR C (p :: ps) (q.map (ns ++ ·)) :=
 .inr ⟨ns, q, h, hq, rfl⟩
theorem LinesR.step {most : Int} {l : List Sg} {way : Int} {ts : List PB} {k : Int} {n : Nat} {mid : List Nd} (h : LineR most l way ts k (some mid)) {r : Option (List Nd)} (hr : LinesR most l way ts (k + 1) n r) : LinesR most l way ts k (n + 1) (r.map (mid ++ ·)) :=
 ⟨some mid, h, r, hr, rfl⟩
theorem LinesR.bad {most : Int} {l : List Sg} {way : Int} {ts : List PB} {k : Int} {n : Nat} (h : LineR most l way ts k none) : LinesR most l way ts k (n + 1) none := ⟨none, h, rfl⟩
theorem map_app {r : Option (List Nd)} (a b : List Nd) : (r.map (b ++ ·)).map (a ++ ·) = r.map ((a ++ b) ++ ·) := by cases r <;> simp
theorem readR_none {most : Int} {l : List Sg} {way L : Int} {xs : List PB} (he : listE most l = 0 ∧ pageE way L = 0 ∧ checkB (xs.map raw) = 0) (hg : ∀ x ∈ xs, good x = true) (hb : (xs.map (turnedP · way)).any (lineBad way) = false)
 (hn : LinesR most l way (xs.map (turnedP · way)) 0 (mostK way (xs.map (turnedP · way)) + 1).toNat none) : ReadR most l way L (xs.map raw) 41 [] := by
 unfold ReadR
 rw [if_neg (by simp [he.1]), if_neg (by simp [he.2.1]), if_neg (by simp [he.2.2])]
 exact ⟨xs, rfl, hg, by rw [if_neg (by rw [hb]; simp)]; exact ⟨none, hn, rfl, rfl⟩⟩
theorem readR_some {most : Int} {l : List Sg} {way L : Int} {xs : List PB} {ms : List Nd} {er : Int} {ns : List Nd} (he : listE most l = 0 ∧ pageE way L = 0 ∧ checkB (xs.map raw) = 0) (hg : ∀ x ∈ xs, good x = true) (hb : (xs.map (turnedP · way)).any (lineBad way) = false)
 (hn : LinesR most l way (xs.map (turnedP · way)) 0 (mostK way (xs.map (turnedP · way)) + 1).toNat (some ms)) (ha : AgainR most l way L xs ms er ns) : ReadR most l way L (xs.map raw) er ns := by
 unfold ReadR
 rw [if_neg (by simp [he.1]), if_neg (by simp [he.2.1]), if_neg (by simp [he.2.2])]
 exact ⟨xs, rfl, hg, by rw [if_neg (by rw [hb]; simp)]; exact ⟨some ms, hn, ha⟩⟩
theorem OwnX.row {w : World} {B : Nat} {v : Value} {xs : List PB} (h : OwnX w B v xs) (hl : xs.length ≤ 1000000) : ∃ A c, v = .slice A xs.length c ∧ BoxRow w A (xs.map raw) := by
 by_cases hx : xs = []
 ·subst hx
  rcases h.2 with ⟨rfl, _⟩ | ⟨g, cap, cur, rfl, _⟩
  ·exact ⟨none, 0, rfl, by simp, fun j x hx => by simp at hx⟩
  ·exact ⟨_, cap, rfl, by simp, fun j x hx => by simp at hx⟩
 ·obtain ⟨_, g, c, rfl, _, hH⟩ := Held.of_own h hx
  exact ⟨_, c, rfl, hH.boxRow (by omega)⟩
theorem LinesM.upto {w w' : World} {b base m n : Nat} {vals : Int → Value} {L : Int → List PB} (h : LinesM w b base m vals L) (hu : Upto w n w') (hb : b ≠ n) (hr : ∀ j q, (vals j).ownBlock = some q → q < n) : LinesM w' b base m vals L :=
 h.keep (row := some n) ⟨hu.os, hu.tape, hu.output, hu.size, fun k hk hne => hu.keep k hk (fun e => hne (by rw [e]))⟩ (fun k e => by cases e; exact ⟨Ne.symm hb, fun j e => by have := hr j _ e; omega⟩)
theorem nodes_cells {w : World} {A : Option Addr} {ns : List Nd} (h : NdRow w A ns) (hne : ns ≠ []) : ∃ b o, A = some ⟨b, o, none⟩ ∧ ∀ (j : Nat) (u : Value), (ndc ns)[j]? = some u → w.cell? ⟨b, o + j, none⟩ = some u := by
 exact tZ17
theorem stepN {OB : Nat} {W w' : World} {v v' : Value} (hs : RowStep W w' v v') : StepO OB W (w'.setCell ⟨OB, 0, none⟩ v') v v' := by
 obtain ⟨s1, s2, s3, s4⟩ := setCell_rest w' ⟨OB, 0, none⟩ v'
 exact ⟨s1.trans hs.by'.os, s2.trans hs.by'.tape, s3.trans hs.by'.output, by rw [s4]; exact hs.dr, by rw [setCell_size]; exact hs.by'.size, fun k hk h2 h3 => (setCell_other w' OB 0 k v' h2).trans (hs.by'.block k hk h3), hs.loc⟩
theorem lay_good {most : Int} {l : List Sg} {G : Lf → Prop} {gs : List Grp} (hT : TxOk most l G gs) (rb : Bool) (way L : Int) (hL : L ≤ 4800) : (∀ b ∈ layP (zOf most l) rb way L gs, good b = true) ∧ (layP (zOf most l) rb way L gs).length ≤ 200 := by
 have hlen : gs.length ≤ 200 := by
  have h1 : ∀ gs : List Grp, (∀ g ∈ gs, isPlain g) → gs.length ≤ (flatG gs).length := by
   intro gs
   induction gs with
   | nil => intro _; exact Nat.le_refl _
   | cons g r ih =>
     intro h
     have h2 := grp_len (h g (by simp))
     have h3 := ih (fun x hx => h x (by simp [hx]))
     rw [flatG, List.length_append, List.length_cons]; omega
  have := h1 gs (fun g hg => (hT.grp g hg).1)
  have := hT.len
  omega
 refine ⟨fun b hb => ?_, Nat.le_trans (layL_len _ rb way L gs 0 0) hT.len⟩
 obtain ⟨p, hp, hb⟩ := List.mem_flatMap.1 hb
 obtain ⟨c, hc, rfl⟩ := List.mem_map.1 hb
 have hpg := stand_ok hT.sz rb L hL gs 0 0 (fun g hg => ⟨(hT.grp g hg).1, (hT.grp g hg).2, by have := flatG_mem hg; have := hT.len; omega⟩) (by omega) (by omega) (by omega) p hp
 exact good.turned (pg_good hT.sz rb hpg c hc) way
theorem OwnN.below {w W : World} {B : Nat} {v : Value} {ns : List Nd} (h : OwnN w B v ns) (hb : Below w.heap.size w W) : OwnN W B v ns :=
 h.kept (row := none) ⟨hb.os, hb.tape, hb.output, hb.size, fun k hk _ => hb.block k hk⟩ (by cases v.ownBlock <;> simp)
theorem BoxAt.below {w W : World} (hb : Below w.heap.size w W) {b o : Nat} {x : RBox} (h : BoxAt w b o x) : BoxAt W b o x := rowV_of rfl fun j v hv => bel_cell hb (rowV_cell h j v (by simpa using hv))
theorem mkMap81 (w : World) : (Instr.makeMap 81 none).run Tryz.prog w = .ok (.map (some w.heap.size)) (w.alloc (.map #[] 0)) := rfl
attribute [local go_sem] mkMap81
set_option maxRecDepth 100000 in
set_option maxHeartbeats 16000000 in
theorem read_main (most : Int) (SA : Option Addr) (sn sc : Nat) (l : List Sg) (A : Option Addr) (len c : Nat) (xs : List PB) (way L : Int) (W : World) (hs : SgRow W SA l) (hsl : l.length = sn) (hsb : sn ≤ 1000000) (hr : BoxRow W A (xs.map raw)) (hg : ∀ x ∈ xs, good x = true) (hl : xs.length = len) (hlen : len ≤ 200)
 (he1 : listE most l = 0) (he2 : pageE way L = 0) (he3 : checkB (xs.map raw) = 0)
 (hTX : ∀ ms, LinesR most l way (xs.map (turnedP · way)) 0 (mostK way (xs.map (turnedP · way)) + 1).toNat (some ms) → checkP most l ms = 0 → ∃ G gs, flatG gs = ms ∧ TxOk most l G gs) :
 Calls Tryz.prog 11 #[lv most SA sn sc, .slice A len c, pgv way L] W (ReadPost W (ReadR most l way L (xs.map raw))) := by
 have hch1 := fun W1 (h : Gr W W1) => signsCheck_call most SA sc l W1 (hs.gr h) sn hsl (by omega)
 have hch2 := pageCheck_call way L
 have hch3 := fun W1 (h : Gr W W1) => check_call A c (xs.map raw) W1 (hr.mono fun _ _ _ => BoxAt.gr h)
 rw [he1] at hch1
 rw [he2] at hch2
 rw [he3, List.length_map, hl] at hch3
 have H1 := hiD hch1
 have H2 := hiD hch2
 have H3 := hiD hch3
 have HE := hiD (And.intro he1 (And.intro he2 he3))
 have HS := hiD hs
 have HSL := hiD hsl
 have HR := hiD hr
 have HG := hiD hg
 have HL := hiD hl
 have HTX := hiD hTX
 have hw := page_bd he2
 clear hch1 hch2 hch3 hs hsl hr hg hl hTX he1 he2 he3
 go_enter Tryz.func11, Tryz.ntmps11
 go_upto_region 11 with (first
  | (go_at_call 34; refine (H1.out _ ((((Gr.refl W).alloc _).alloc _).alloc _)).mono ?_; rintro e w1 ⟨rfl, hg1⟩; obtain ⟨q1, os1, rfl⟩ := hg1.eq; clear hg1)
  | (go_at_call 35; refine (H2.out _).mono ?_; rintro e w2 ⟨rfl, hg2⟩; obtain ⟨q2, os2, rfl⟩ := hg2.eq; clear hg2)
  | (go_at_call 36; refine (H3.out _ gw).mono ?_; rintro e w3 ⟨rfl, hg3⟩; obtain ⟨q3, os3, rfl⟩ := hg3.eq; clear hg3))
 obtain ⟨w3, hw3⟩ : ∃ w3, w3 = grow ((grow ((grow ((((W.alloc (.cells #[.int .i64 most, .slice SA sn sc] 24)).alloc (.cells #[.int .i64 way, .int .i64 L] 27)).alloc (.cells #[.slice none 0 0] 33)).drewN q1) os1).drewN q2) os2).drewN q3) os3 := ⟨_, rfl⟩
 have g3 : Gr W w3 := by rw [hw3]; exact gw
 have m0 : w3.cell? ⟨W.heap.size, 0, none⟩ = some (.int .i64 most) := by rw [hw3]; go_simp
 have m1 : w3.cell? ⟨W.heap.size, 1, none⟩ = some (.slice SA sn sc) := by rw [hw3]; go_simp
 have m2 : w3.cell? ⟨W.heap.size + 1, 0, none⟩ = some (.int .i64 way) := by rw [hw3]; go_simp
 have m3 : w3.cell? ⟨W.heap.size + 1, 1, none⟩ = some (.int .i64 L) := by rw [hw3]; go_simp
 have m4 : w3.cell? ⟨W.heap.size + 2, 0, none⟩ = some (.slice none 0 0) := by rw [hw3]; go_simp
 have m5 : w3.frozen? ⟨W.heap.size + 2, 0, none⟩ = false := by rw [hw3]; go_simp
 have hmb : W.heap.size + (3 + (os1.size + (os2.size + os3.size))) = w3.heap.size := by rw [hw3]; simp; omega
 simp only [Nat.add_assoc, Nat.reduceAdd]
 rw [← hw3, hmb]
 clear hw3 hmb
 have hlm := lines_made w3
 have g4 : Gr w3 (w3.alloc (.map #[] 0)) := (Gr.refl w3).alloc _
 have hb4 : (w3.alloc (.map #[] 0)).heap.size = w3.heap.size + 1 := by simp
 have hn3 : W.heap.size + 2 < w3.heap.size := lcc w3 _ m4
 generalize w3.alloc (.map #[] 0) = W4 at hlm g4 hb4 ⊢
 obtain ⟨mb, hmb⟩ : ∃ mb, mb = w3.heap.size := ⟨_, rfl⟩
 rw [← hmb] at hlm hb4 ⊢
 have HLM := hiD hlm
 have G3 := hiD g3
 have G4 := hiD g4
 have HMB := hiD hmb
 have M0 := hiD m0
 have M1 := hiD m1
 have M2 := hiD m2
 have M3 := hiD m3
 have M4 := hiD m4
 have M5 := hiD m5
 have hmbW : W.heap.size + 2 < mb := by omega
 clear hlm g3 g4 hmb m0 m1 m2 m3 m4 m5 hb4 hn3
 obtain ⟨ts, hts⟩ : ∃ ts, ts = xs.map (turnedP · way) := ⟨_, rfl⟩
 have HTS := hiD hts
 rw [← hts] at HTX
 clear hts
 go_upto_region 13 with fail
 go_loopw [45, 12] (fun i mo wr => ∃ (k : Nat) (mm : Int) (vals : Int → Value), i = .int .i64 k ∧ mo = .int .i64 mm ∧ k ≤ len ∧ -1 ≤ mm ∧ mm ≤ 200 ∧ Hid (mm = mostK way (ts.take k)) ∧ Hid ((ts.take k).any (lineBad way) = false) ∧ Hid (LinesM wr mb (mb + 1) k vals (lineAt way (ts.take k))) ∧ Hid (Gr w3 wr)) (fun i _ _ => len - (intOf i).toNat)
 case atStart => exact ⟨0, -1, _, rfl, rfl, Nat.zero_le _, by omega, by omega, rfl, rfl, HLM.out, G4.out⟩
 case round =>
  obtain ⟨k, mm, vals, rfl, rfl, hk, hm0, hm1, HMM, HNB, HLR, HGR⟩ := hrel
  have c2 := HGR.out.cell M2.out
  have c3 := HGR.out.cell M3.out
  have n2 := lcc wr _ c2
  have hmlt := HLR.out.lt
  by_cases hlt : k < len
  ·obtain ⟨x, hx⟩ : ∃ x, xs[k]? = some x := ⟨_, gE (by rw [HL.out]; exact hlt)⟩
   obtain ⟨blk, off, rfl, hb⟩ := (HR.out.mono fun _ _ _ => BoxAt.gr (G3.out.trans HGR.out)).2 k (raw x) (by simp [hx])
   have l1 : rowV 15 wr blk (off + k * 15) = some (pv x) := hb
   have nb := lcc wr _ (rowV_cell l1 0 _ rfl)
   have hgx := HG.out x (List.mem_of_getElem? hx)
   have hd : decide ((k : Int) < (len : Int)) = true := by simp; omega
   have tk : ((k : Nat) : Int).toNat = k := by omega
   have hvx : vld x.x = true ∧ vld x.y = true ∧ vld x.w = true := by simp only [good, Bool.and_eq_true] at hgx; exact ⟨hgx.1.1.1.1, hgx.1.1.1.2, hgx.1.1.2⟩
   have HTU := hiD (turned_call x way L hvx.1 hvx.2.2 (by omega) (by omega))
   obtain ⟨t, ht⟩ : ∃ t, t = turnedP x way := ⟨_, rfl⟩
   rw [← ht] at HTU
   have htk : ts[k]? = some t := by rw [HTS.out, List.getElem?_map, hx, ht]; rfl
   have htg : good t = true := by rw [ht]; exact good.turned hgx way
   obtain ⟨k39, k38⟩ := lineK_bd (way := way) (good.from htg (!decide (way ≤ 2)))
   have k40 := from_call t (!decide (way ≤ 2))
   have k41 := rows_call way L
   obtain ⟨ln, hln⟩ : ∃ ln, ln = lineK way t := ⟨_, rfl⟩
   obtain ⟨pq, hpq⟩ : ∃ pq, pq = fr (!decide (way ≤ 2)) t * ((1 : Int) : Rat) / ((72 : Nat) : Rat) := ⟨_, rfl⟩
   rw [← hpq] at k39 k38
   clear hpq
   obtain ⟨pf, hpf⟩ : ∃ pf, pf = fr (!decide (way ≤ 2)) t := ⟨_, rfl⟩
   rw [← hpf] at k39 k40
   clear hpf
   rw [← hln] at k38
   obtain ⟨rb, hrb⟩ : ∃ rb, rb = decide (way ≤ 2) := ⟨_, rfl⟩
   rw [← hrb] at k40 k41
   clear hrb
   have K38 := hiD k38
   have K39 := hiD k39
   have K40 := hiD k40
   have K41 := hiD k41
   have HLN := hiD hln
   clear k38 k39 k40 k41 hln
   have HTK := hiD htk
   have HT := hiD ht
   have HTG := hiD htg
   clear hx hb hgx hvx ht htk htg
   go_wp2_with (go_at_call 37; refine (HTU.out _).mono ?_; rintro e w5 ⟨rfl, hg5⟩; obtain ⟨q5, os5, rfl⟩ := hg5.eq; clear hg5)
   have hb5 : rowV 15 (Sort.grow ((wr.alloc (.cells #[.int .i64 t.lf.kind, .int .i64 t.lf.sign, .int .i64 t.lf.turn, .bool t.lf.mirror, .int .i64 t.lf.state, .int .i64 t.lf.mn, .int .i64 t.lf.mx, .int .i64 t.x.num, .int .i64 (t.x.den : Int), .int .i64 t.y.num, .int .i64 (t.y.den : Int), .int .i64 t.w.num, .int .i64 (t.w.den : Int), .int .i64 t.h.num, .int .i64 (t.h.den : Int)] 66)).drewN q5) os5) wr.heap.size 0 = some (pv t) := by go_simp
   have hg5 : Gr wr (Sort.grow ((wr.alloc (.cells #[.int .i64 t.lf.kind, .int .i64 t.lf.sign, .int .i64 t.lf.turn, .bool t.lf.mirror, .int .i64 t.lf.state, .int .i64 t.lf.mn, .int .i64 t.lf.mx, .int .i64 t.x.num, .int .i64 (t.x.den : Int), .int .i64 t.y.num, .int .i64 (t.y.den : Int), .int .i64 t.w.num, .int .i64 (t.w.den : Int), .int .i64 t.h.num, .int .i64 (t.h.den : Int)] 66)).drewN q5) os5) := gw
   generalize Sort.grow ((wr.alloc (.cells #[.int .i64 t.lf.kind, .int .i64 t.lf.sign, .int .i64 t.lf.turn, .bool t.lf.mirror, .int .i64 t.lf.state, .int .i64 t.lf.mn, .int .i64 t.lf.mx, .int .i64 t.x.num, .int .i64 (t.x.den : Int), .int .i64 t.y.num, .int .i64 (t.y.den : Int), .int .i64 t.w.num, .int .i64 (t.w.den : Int), .int .i64 t.h.num, .int .i64 (t.h.den : Int)] 66)).drewN q5) os5 = w5 at hb5 hg5 ⊢
   obtain ⟨tb, htb⟩ : ∃ tb, tb = wr.heap.size := ⟨_, rfl⟩
   rw [← htb] at hb5 ⊢
   have HTB := hiD htb
   have nt := lcc w5 _ (rowV_cell hb5 0 _ rfl)
   have c2 := hg5.cell c2
   have c3 := hg5.cell c3
   have n2 := lcc w5 _ c2
   have HG5 := hiD hg5
   have HB5 := hiD hb5
   clear htb hg5 l1 nb
   refine wp_region_quiet_grown mixed (by kernel_rfl) ?_
   repeat (go_big_quiet_step ((first | (go_at_call 41; exact K41.out.quiet) | (go_at_call 40; exact K40.out.quiet) | (go_at_call 39; exact K39.out.quiet) | (go_at_call 38; exact K38.out.quiet))))
   refine wpQuiet_nil ?_
   rintro w' ⟨⟨nq, osq⟩, rfl⟩
   have hg6 : Gr w5 (Sort.grow (w5.drewN nq) osq) := Gr.of_eq _ _
   generalize Sort.grow (w5.drewN nq) osq = w6 at hg6 ⊢
   have hG6 := HGR.out.trans (HG5.out.trans hg6)
   have HG6 := hiD hG6
   have hb6 := rowV_mono hg6 HB5.out rfl
   have nt := lcc w6 _ (rowV_cell hb6 0 _ rfl)
   have c4 := hG6.cell M4.out
   have f4 : w6.frozen? ⟨W.heap.size + 2, 0, none⟩ = false := (World.frozen?_of_block (hG6.b.block (W.heap.size + 2) (lcc w3 _ M4.out))).trans M5.out
   have n4 := lcc w6 _ c4
   have htsk : ts.take (k + 1) = ts.take k ++ [t] := by rw [List.take_add_one, HTK.out]; rfl
   have HTSK := hiD htsk
   have HLM6 := hiD (HLR.out.gr (HG5.out.trans hg6))
   have HW6 := hiD (G3.out.trans hG6)
   clear c2 c3 n2 hb5 hG6 hg6 htsk nq osq
   rcases Int.lt_or_le ln 0 with hn0 | hn0
   ·have d0 : decide (ln < 0) = true := by simp [hn0]
    have hbad : ts.any (lineBad way) = true := List.any_eq_true.2 ⟨t, List.mem_of_getElem? HTK.out, by simp [lineBad, ← HLN.out, hn0]⟩
    have HBAD := hiD hbad
    clear hn0 hbad
    go_wp2_with fail
    exact read_bad HW6.out.b c4 41 rfl rfl (readR_bad HE.out HG.out (by rw [← HTS.out]; exact HBAD.out))
   rcases Int.lt_or_le 200 ln with hn1 | hn1
   ·have d0 : decide (ln < 0) = false := by simp; omega
    have d1 : decide (200 < ln) = true := by simp [hn1]
    have hbad : ts.any (lineBad way) = true := List.any_eq_true.2 ⟨t, List.mem_of_getElem? HTK.out, by simp [lineBad, ← HLN.out, hn1]⟩
    have HBAD := hiD hbad
    clear hn0 hn1 hbad
    go_wp2_with fail
    exact read_bad HW6.out.b c4 41 rfl rfl (readR_bad HE.out HG.out (by rw [← HTS.out]; exact HBAD.out))
   ·have d0 : decide (ln < 0) = false := by simp; omega
    have d1 : decide (200 < ln) = false := by simp; omega
    have hlook := HLM6.out.look (k := ln) (by omega) (by omega)
    have hown := HLM6.out.row ln
    have hll : (lineAt way (ts.take k) ln).length ≤ 2000000 := by
     have h1 := List.length_filter_le (fun b => decide (lineK way b = ln)) (ts.take k)
     have h2 : (ts.take k).length ≤ k := by simp; omega
     unfold lineAt; omega
    have HOWN := hiD hown
    have hmb6 : mb + 1 ≤ w6.heap.size := HLM6.out.lt
    have hmx : (if mm < ln then ln else mm) = max mm ln := by split <;> omega
    clear hown
    go_wp2_with ((at_builtin; refine wpList_boxA rfl _ _ rfl (mb + 1) (vals ln) _ rfl (HOWN.out.gr gw) _ _ t rfl (fun j u hu => (World.cell?_alloc_at _ _ _ _ (by go_simp)).trans (by simpa using hu)) hll (by simp; omega) ?_; intro v7 w7 HO7 HS7; obtain ⟨w8, hrun, hlm8, hby8, hdr8⟩ := HLM6.out.put (by omega) (by omega) (by omega) ((RowStep.gr ((Gr.refl w6).alloc _) (vals ln)).trans HS7.out) HO7.out; have HLM8 := hiD hlm8; have HBY8 := hiD hby8; have HDR8 := hiD hdr8; clear hlm8 hby8 hdr8))
    go_roundw
    case rel =>
     refine ⟨k + 1, max mm ln, (fun j => if j = ln then v7 else vals j), by go_num, rfl, by omega, by omega, by omega, ?_, ?_, ?_, ?_⟩
     ·show _ = _
      rw [HTSK.out, mostK, List.foldl_append, ← mostK, ← HMM.out, HLN.out]; rfl
     ·show _ = _
      rw [HTSK.out, List.any_append, HNB.out]
      simp [lineBad, ← HLN.out]; omega
     ·have := HLM8.out
      rw [HLN.out, lineAt_snoc, ← HTSK.out, ← HLN.out] at this
      exact this
     ·have hlo := HLM6.out.low ln
      have h1 := Gr.grown (HG6.out.alloc _) HS7.out.by' (fun q hq => by have := (hlo q hq).1; have := HMB.out; omega) HS7.out.dr
      exact Gr.grown h1 HBY8.out (fun q hq => by cases hq; have := HMB.out; omega) (by rw [HDR8.out]; exact Nat.le_refl _)
    case measure => simp [intOf]; omega
  ·obtain rfl : k = len := by omega
   have htk : ts.take k = ts := List.take_of_length_le (by rw [HTS.out, List.length_map, HL.out]; exact Nat.le_refl _)
   rw [htk] at HMM HNB HLR
   have hd : decide ((k : Int) < (k : Int)) = false := by simp
   clear htk c2 c3 n2
   go_upto_region 23 with fail
   have hb5 : (wr.alloc (.cells #[.slice none 0 0] 33)).heap[wr.heap.size]? = some (.cells #[.slice none 0 0] 33 (0, 0)) := heap_alloc_new wr _
   have hsz5 : (wr.alloc (.cells #[.slice none 0 0] 33)).heap.size = wr.heap.size + 1 := by simp
   have g5 : Gr w3 (wr.alloc (.cells #[.slice none 0 0] 33)) := HGR.out.alloc _
   have hl5 := HLR.out.gr ((Gr.refl wr).alloc (.cells #[.slice none 0 0] 33))
   have hw3s := HGR.out.b.size
   have hlow := HLR.out.low
   generalize wr.alloc (.cells #[.slice none 0 0] 33) = W5 at hb5 hsz5 g5 hl5 ⊢
   obtain ⟨tb, htb⟩ : ∃ tb, tb = wr.heap.size := ⟨_, rfl⟩
   rw [← htb] at hb5 hsz5 ⊢
   have hlow2 : ∀ i q, (vals i).ownBlock = some q → q < tb := fun i q e => by have := (hlow i q e).2; omega
   have HLOW := hiD hlow2
   clear hlow hlow2
   have h00 : BoxN W5 tb W5 (.slice none 0 0) [] := ⟨Upto.refl _ _, hb5, OwnN.nil _ _⟩
   have hmt : mb < tb := by omega
   have hW5 : tb < W5.heap.size := by omega
   have G5 := hiD g5
   have HL5 := hiD hl5
   have H00 := hiD h00
   have HW35 : w3.heap.size ≤ tb := by omega
   obtain ⟨N, hN⟩ : ∃ N : Nat, (N : Int) = mm + 1 := ⟨(mm + 1).toNat, by omega⟩
   have hN2 : N ≤ 201 := by omega
   have hw79 : IntKind.i64.wrap (mm + 1) = (N : Int) := by rw [hN]; exact IntWalk.i64_in _ ⟨by omega, by omega⟩
   have hNT : (mostK way ts + 1).toNat = N := by rw [← HMM.out]; omega
   rw [hNT] at HTX
   have HNT := hiD hNT
   clear hb5 hsz5 g5 hl5 h00 htb hNT hw3s HGR HLR HLM
   go_upto_region 24 with fail
   go_loopw [80] (fun i wr => ∃ (k : Nat) (v : Value) (out : List Nd), i = .int .i64 k ∧ k ≤ N ∧ out.length ≤ 600 * k ∧ Hid (BoxN W5 tb wr v out) ∧ Hid (∀ r, LinesR most l way ts k (N - k) r → LinesR most l way ts 0 N (r.map (out ++ ·)))) (fun i _ => N - (intOf i).toNat)
   case atStart => exact ⟨0, _, [], rfl, Nat.zero_le _, Nat.zero_le _, H00.out, fun r h => by cases r <;> simpa using h⟩
   case round =>
    obtain ⟨j, v, out, rfl, hj, hol, HBX, HPRE⟩ := hrel
    by_cases hlt2 : j < N
    ·have hd2 : decide ((j : Int) < (N : Int)) = true := by simp; omega
     have hLw := HL5.out.upto HBX.out.up (by omega) HLOW.out
     have hup := HBX.out.up
     have hc2 := hup.cell (by omega) (G5.out.cell M2.out)
     have hc3 := hup.cell (by omega) (G5.out.cell M3.out)
     have n2 := lcc wr _ hc2
     have hcnt : (lineAt way ts j).length ≤ 200 := by
      have h1 := List.length_filter_le (fun b => decide (lineK way b = j)) ts
      have h2 := HL.out
      rw [HTS.out, List.length_map] at h1
      rw [HTS.out]
      unfold lineAt; omega
     obtain ⟨LA, lc, hlv, hlr⟩ := (hLw.row j).row (by omega)
     obtain ⟨ll, hll⟩ : ∃ ll, ll = (lineAt way ts j).length := ⟨_, rfl⟩
     rw [← hll] at hlv hcnt
     have HLL := hiD hll
     have hlk : ∀ w', Gr wr w' → (Instr.lookup 81 (.map (some mb)) (.int .i64 j) false).run Tryz.prog w' = .ok (.slice LA ll lc) w' := fun w' h => by rw [← hlv]; exact (hLw.gr h).look (by omega) (by omega)
     have HLK := hiD hlk
     obtain ⟨rb, hrb⟩ : ∃ rb, rb = decide (way ≤ 2) := ⟨_, rfl⟩
     have hgoodL : ∀ x ∈ lineAt way ts j, good x = true := fun x hx => by
      have h1 := (List.mem_filter.1 hx).1
      rw [HTS.out] at h1
      obtain ⟨y, hy, rfl⟩ := List.mem_map.1 h1
      exact good.turned (HG.out y hy) way
     have HGL := hiD hgoodL
     have HSPL := hiD (fun (W7 : World) (h : Gr wr W7) => split_call W7 LA lc (lineAt way ts j) rb 43 #[] g24 (ap24 W7) (hlr.mono fun _ _ _ => BoxAt.gr h) hgoodL ll hll.symm (by omega))
     have k41 := rows_call way L
     rw [← hrb] at k41
     have K41 := hiD k41
     have HRB := hiD hrb
     clear hlk hlv hlr hll hLw hup hrb k41 hgoodL
     go_upto_region 26 with fail
     refine free_grown [0, 1, 7] [2, 3] [4, 5] [6] (by kernel_rfl) (fun d _ _ _ _ h => by cases d <;> exact h) ?_
     simp only [List.filterMap_cons, List.filterMap_nil, List.getElem?_cons_succ, List.getElem?_cons_zero]
     repeat (refine wpPure_step (fun K hK => ?_); go_simp; refine hK _ ?_; clear hK K)
     refine wpPure_nil ?_
     refine wpTake_val rfl (.slice LA ll lc) (fun w' hg' => ?_) ?_
     ·have := HLK.out w' hg'
      go_simp
     refine wpTake_val rfl (pgv way L) (fun w' hg' => ?_) ?_
     ·have := hg'.cell hc2
      have := hg'.cell hc3
      go_simp
     refine wpTake_nil ?_
     refine wpU_step rfl (fun K hK => ?_)
     go_simp
     refine (K41.out wr.drew).mono ?_
     rintro e w7 ⟨rfl, hg7⟩
     have hw7 := (Gr.refl wr).drew.trans hg7
     refine hK.out _ _ hw7 ?_
     have HG7 := hiD hw7
     clear hK K hg7 hw7
     refine wpU_step rfl (fun K hK => ?_)
     go_simp
     refine (HSPL.out w7 HG7.out).mono ?_
     rintro e w8 ⟨hg8, A', c', ys, hpm, hst, he, hpt⟩
     obtain ⟨pn, hpn⟩ : ∃ n, n = (scan rb g24 ys).length := ⟨_, rfl⟩
     rw [← hpn] at he
     subst he
     have hw8 := HG7.out.trans hg8
     have HG8 := hiD hw8
     have HPM := hiD hpm
     have HST := hiD hst
     have HPT := hiD hpt
     have HPN := hiD hpn
     refine hK.out _ _ hw8 ?_
     clear hK K hg8 hpm hst hpt hpn hw8
     refine wpU_nil ?_
     go_upto_region 27 with fail
     have hP200 : ys.length ≤ 200 := by rw [HPM.out.length_eq, ← HLL.out]; exact hcnt
     have hpn200 : pn ≤ 200 := by have h5 := parts_le _ (scan_ne rb g24 ys); rw [scan_flat, ← HPN.out] at h5; omega
     obtain ⟨P, hP⟩ : ∃ P, P = scan rb g24 ys := ⟨_, rfl⟩
     rw [← hP] at HPT HPN
     have hpfl : P.flatten = ys := by rw [hP]; exact scan_flat rb g24 ys
     have hpne : ∀ p ∈ P, p ≠ [] := by rw [hP]; exact scan_ne rb g24 ys
     have HSR := hiD (show SplitR rb g24 (lineAt way ts j) P from ⟨ys, HPM.out, HST.out, hP⟩)
     have hpg : ∀ p ∈ P, ∀ x ∈ p, good x = true := fun p hp x hx => HGL.out x (HPM.out.mem_iff.1 (by rw [← hpfl]; exact List.mem_flatten.2 ⟨p, hp, hx⟩))
     have HPG := hiD hpg
     have HPNE := hiD hpne
     have HPFL := hiD hpfl
     have HX8 := hiD (HBX.out.gr HG8.out)
     have hw58 : W5.heap.size ≤ w8.heap.size := HX8.out.up.size
     have hlo8 : ∀ q, v.ownBlock = some q → q < w7.heap.size := fun q e => Nat.lt_of_lt_of_le (HBX.out.own.lt q e).2 HG7.out.b.size
     have HLO8 := hiD hlo8
     have htb7 : tb < w7.heap.size := Nat.lt_of_lt_of_le hW5 (Nat.le_trans HBX.out.up.size HG7.out.b.size)
     clear hP hpfl hpne hpg hlo8 hc2 hc3 n2
     obtain ⟨wo, hwo⟩ : ∃ wo, wo = wr := ⟨wr, rfl⟩
     rw [← hwo] at HBX HLK HSPL HG7 HG8
     clear hwo
     go_loopw [90] (fun i wr => ∃ (q : Nat) (v2 : Value) (mid : List Nd), i = .int .i64 q ∧ q ≤ pn ∧ mid.length ≤ 3 * ((P.take q).flatten.length) ∧ Hid (BoxN W5 tb wr v2 (out ++ mid)) ∧ Hid (StepO tb w8 wr v v2) ∧ Hid (∀ r, AllR (GuessR most l rb) (P.drop q) r → AllR (GuessR most l rb) P (r.map (mid ++ ·)))) (fun i _ => pn - (intOf i).toNat)
     case atStart => exact ⟨0, v, [], rfl, Nat.zero_le _, Nat.zero_le _, by rw [List.append_nil]; exact HX8.out, StepO.gr (Gr.refl _) _, fun r h => by cases r <;> simpa using h⟩
     case round =>
      obtain ⟨q, v2, mid, rfl, hq, hml, HBX2, HST2, HALL⟩ := hrel
      by_cases hltq : q < pn
      ·obtain ⟨p, hp⟩ : ∃ p, P[q]? = some p := ⟨_, gE (by rw [← HPN.out]; exact hltq)⟩
       have hpr := HPT.out wr (fun k2 h1 h2 => HST2.out.keep k2 h2 (by omega) (fun e => by have := HLO8.out k2 e.symm; omega))
       obtain ⟨pb, po, rfl, PA, pc, hpc, hprow⟩ := hpr.2 q p hp
       rw [Nat.mul_one] at hpc
       have npb := lcc wr _ hpc
       have hd3 : decide ((q : Int) < (pn : Int)) = true := by simp; omega
       have tq : ((q : Nat) : Int).toNat = q := by omega
       have hup := HBX2.out.up
       have hbw := hup.below2 (G3.out.trans G5.out).b (by omega)
       have hc0 := hup.cell (by omega) (G5.out.cell M0.out)
       have hc1 := hup.cell (by omega) (G5.out.cell M1.out)
       have hc2 := hup.cell (by omega) (G5.out.cell M2.out)
       have hc3 := hup.cell (by omega) (G5.out.cell M3.out)
       have n0 := lcc wr _ hc0
       have n2 := lcc wr _ hc2
       have hpm := List.mem_of_getElem? hp
       have hpl : p.length ≤ 200 := by
        have h1 : p.length ≤ P.flatten.length := by
         obtain ⟨l1, l2, e⟩ := List.append_of_mem hpm
         rw [e]; simp; omega
        rw [HPFL.out] at h1
        omega
       obtain ⟨pl, hpl2⟩ : ∃ pl, pl = p.length := ⟨_, rfl⟩
       rw [← hpl2] at hpc hpl
       have HGU := hiD (fun (w' : World) (h : Gr wr w') => guess_call most SA sn sc l PA pl pc p rb w' ((HS.out.below hbw).gr h) HSL.out hsb (hprow.mono fun _ _ _ => BoxAt.gr h) (HPG.out p hpm) hpl2.symm (by omega))
       have HPQ := hiD hp
       have HPL2 := hiD hpl2
       have HBW := hiD hbw
       have HPM2 := hiD hpm
       clear hp hpr hprow hup hbw hpm hpl2
       go_upto_region 29 with fail
       refine free2_grown [1] [0, 2] [3, 4] [5, 6, 7, 8, 9] [] (by kernel_rfl) (fun d _ _ _ _ h => by cases d <;> exact h) ?_
       simp only [List.filterMap_cons, List.filterMap_nil, List.getElem?_cons_succ, List.getElem?_cons_zero]
       repeat (refine wpPure_step (fun K hK => ?_); go_simp; refine hK _ ?_; clear hK K)
       refine wpPure_nil ?_
       refine wpTake_val rfl (lv most SA sn sc) (fun w' hg' => ?_) ?_
       ·have := hg'.cell hc0
        have := hg'.cell hc1
        go_simp
       refine wpTake_val rfl (pgv way L) (fun w' hg' => ?_) ?_
       ·have := hg'.cell hc2
        have := hg'.cell hc3
        go_simp
       refine wpTake_nil ?_
       refine wpV_step rfl (fun K hK => ?_)
       go_simp
       refine (K41.out wr.drew).mono ?_
       rintro e w10 ⟨rfl, hg10⟩
       have hw10 := (Gr.refl wr).drew.trans hg10
       refine hK.out _ _ hw10 ?_
       have HG10 := hiD hw10
       clear hK K hg10 hw10
       refine wpV_step rfl (fun K hK => ?_)
       go_simp
       refine (HGU.out w10 HG10.out).mono ?_
       rintro e w11 ⟨r, gv, hgr, rfl, hg11, hnd⟩
       have hw11 := HG10.out.trans hg11
       refine hK.out _ _ hw11 ?_
       have HGR11 := hiD hgr
       have HG11 := hiD hw11
       have HND := hiD hnd
       clear hK K hg11 hw11 hgr hnd
       refine wpV_nil ?_
       repeat (refine wpPure_step (fun K hK => ?_); go_simp; refine hK _ ?_; clear hK K)
       refine wpPure_nil ?_
       clear hc0 hc1 hc2 hc3 n0 n2 hpc npb
       have hc4 := HG11.out.cell (HBX2.out.up.cell (by omega) (G5.out.cell M4.out))
       have hf4 : w11.frozen? ⟨W.heap.size + 2, 0, none⟩ = false := by
        have h3 := lcc w3 _ M4.out
        have h5 := lcc W5 _ (G5.out.cell M4.out)
        have hr5 := lcc wr _ (HBX2.out.up.cell (by omega) (G5.out.cell M4.out))
        exact (World.frozen?_of_block ((HG11.out.b.block _ hr5).trans ((HBX2.out.up.keep (W.heap.size + 2) h5 (by omega)).trans (G5.out.b.block _ h3)))).trans M5.out
       have n4 := lcc w11 _ hc4
       have hdr : P.drop q = p :: P.drop (q + 1) := by
        rw [List.drop_eq_getElem_cons (gO HPQ.out).1, (gO HPQ.out).2]
       have HDR := hiD hdr
       have HBW11 := hiD (HBW.out.trans (HG11.out.b.mono HBW.out.size))
       clear hdr
       cases r with
       | none =>
         have hnone : LinesR most l way ts 0 N none := by
          have h1 : AllR (GuessR most l rb) P none := HALL.out none (by rw [HDR.out]; exact .inl ⟨HGR11.out, rfl⟩)
          have h2 := HPRE.out none (by
           rw [show N - j = (N - j - 1) + 1 by omega]
           exact LinesR.bad ⟨P, by rw [← HRB.out]; exact HSR.out, by rw [← HRB.out]; exact h1⟩)
          exact h2
         have HNONE := hiD hnone
         clear hnone
         go_wp2_with fail
         exact read_bad HBW11.out hc4 41 rfl rfl (readR_none HE.out HG.out (by rw [← HTS.out]; exact HNB.out) (by rw [← HTS.out, HNT.out]; exact HNONE.out))
       | some ms =>
         have hmsne := guess_ne HGR11.out
         obtain ⟨GA, gc, rfl, hndr, hmsl⟩ := HND.out ms rfl
         obtain ⟨gb, go, rfl, hcells⟩ := nodes_cells hndr hmsne
         obtain ⟨ml, hml2⟩ : ∃ ml, ml = ms.length := ⟨_, rfl⟩
         rw [← hml2] at hmsl ⊢
         have hp1 : 1 ≤ p.length := by
          have := HPNE.out p HPM2.out
          have : p.length ≠ 0 := fun e => this (List.eq_nil_of_length_eq_zero e)
          omega
         have htk1 : (P.take (q + 1)).flatten.length = (P.take q).flatten.length + p.length := by
          rw [List.take_add_one, HPQ.out]; simp
         have htk2 : (P.take q).flatten.length ≤ 200 := by
          have h1 : (P.take q).flatten.length + (P.drop q).flatten.length = P.flatten.length := by rw [← List.length_append, ← List.flatten_append, List.take_append_drop]
          rw [HPFL.out] at h1
          omega
         have hpl3 := HPL2.out
         have hBX11 := HBX2.out.gr HG11.out
         obtain ⟨hcb, hfb⟩ := cell_of_box hBX11.box
         have nbx := lcc w11 _ hcb
         have HBX11 := hiD hBX11
         have HCL := hiD hcells
         have HML2 := hiD hml2
         have hw511 : W5.heap.size ≤ w11.heap.size := hBX11.up.size
         have hlenb : (out ++ mid).length + ml ≤ 2000000 := by rw [List.length_append]; omega
         clear hBX11 hndr hcells hml2
         go_wp2_with (at_builtin; refine wpList_nds rfl _ _ rfl W5.heap.size v2 (out ++ mid) rfl HBX11.out.own gb go _ ms ml HML2.out.symm rfl HCL.out hlenb hw511 ?_; intro v12 w12 HO12 HS12; obtain ⟨A12, c12, hv12, _, _⟩ := HO12.out.row (by have := HML2.out; simp only [List.length_append] at hlenb ⊢; omega); obtain ⟨l12, hl12⟩ : ∃ l12, l12 = (out ++ mid ++ ms).length := ⟨_, rfl⟩; rw [← hl12] at hv12; subst hv12; clear hl12; obtain ⟨hc12, hB12⟩ := HBX11.out.step hW5 HS12.out HO12.out; obtain ⟨hcb12, hfb12⟩ := cell_of_box hc12; have n12 := lcc w12 _ hcb12; have HB12 := hiD hB12; clear hc12 hB12)
         go_roundw
         case rel =>
          refine ⟨q + 1, _, mid ++ ms, by go_num, by omega, ?_, ?_, HST2.out.trans ((StepO.gr HG11.out v2).trans (stepN HS12.out)), ?_⟩
          ·rw [List.length_append, htk1, ← HML2.out]; omega
          ·have := HB12.out
           rw [List.append_assoc] at this
           exact this
          ·intro r hr
           rw [← map_app]
           exact HALL.out _ (by rw [HDR.out]; exact AllR.app HGR11.out hr)
         case measure => simp [intOf]; omega
      ·obtain rfl : q = pn := by omega
       have hd3 : decide ((q : Int) < (q : Int)) = false := by simp
       have htk0 : P.take q = P := List.take_of_length_le (by rw [← HPN.out]; exact Nat.le_refl _)
       rw [htk0, HPFL.out] at hml
       have hall := HALL.out (some []) (by rw [List.drop_eq_nil_of_le (by rw [← HPN.out]; exact Nat.le_refl _)]; rfl)
       have hall2 : LineR most l way ts j (some mid) := ⟨P, by rw [← HRB.out]; exact HSR.out, by rw [← HRB.out]; simpa using hall⟩
       have HALL2 := hiD hall2
       clear hall hall2 htk0
       go_wp2_with fail
       go_roundw
       case rel =>
        refine ⟨j + 1, v2, out ++ mid, by go_num, by omega, by rw [List.length_append]; omega, HBX2.out, ?_⟩
        intro r hr
        rw [← map_app]
        refine HPRE.out _ ?_
        rw [show N - j = (N - (j + 1)) + 1 by omega]
        exact LinesR.step HALL2.out (by simpa using hr)
       case measure => simp [intOf]; omega
    ·obtain rfl : j = N := by omega
     have hd2 : decide ((j : Int) < (j : Int)) = false := by simp
     have hlin : LinesR most l way ts 0 j (some out) := by
      have := HPRE.out (some []) (by rw [Nat.sub_self]; rfl)
      simpa using this
     have HLIN := hiD hlin
     clear hlin
     go_upto_region 35 with fail
     have hup := HBX.out.up
     have hbw := hup.below2 (G3.out.trans G5.out).b (by omega)
     have hc0 := hup.cell (by omega) (G5.out.cell M0.out)
     have hc1 := hup.cell (by omega) (G5.out.cell M1.out)
     have hc2 := hup.cell (by omega) (G5.out.cell M2.out)
     have hc3 := hup.cell (by omega) (G5.out.cell M3.out)
     have hc4 := hup.cell (by omega) (G5.out.cell M4.out)
     have hf4 : wr.frozen? ⟨W.heap.size + 2, 0, none⟩ = false := by
      have h3 := lcc w3 _ M4.out
      have h5 := lcc W5 _ (G5.out.cell M4.out)
      exact (World.frozen?_of_block ((hup.keep (W.heap.size + 2) h5 (by omega)).trans (G5.out.b.block _ h3))).trans M5.out
     obtain ⟨hcb, hfb⟩ := cell_of_box HBX.out.box
     have n0 := lcc wr _ hc0
     have n4 := lcc wr _ hc4
     have nb := lcc wr _ hcb
     obtain ⟨NA, nc, hv, hnd, _⟩ := HBX.out.own.row (by omega)
     obtain ⟨nn, hnn⟩ : ∃ nn, nn = out.length := ⟨_, rfl⟩
     rw [← hnn] at hv
     subst hv
     have hLE : LayEnv wr most SA sn sc NA nn nc l out := ⟨HS.out.below hbw, HSL.out, hsb, hnd, hnn.symm, by omega⟩
     have HLE := hiD hLE
     obtain ⟨ce, hce⟩ : ∃ ce, ce = checkP most l out := ⟨_, rfl⟩
     have HCK := hiD (textCheck_call most SA sn sc NA nn nc l out wr hLE)
     rw [← hce] at HCK
     have HCE := hiD hce
     have HBW := hiD hbw
     have hwW : W.heap.size ≤ wr.heap.size := hbw.size
     clear hup hbw hnd hLE hce hnn
     by_cases hce0 : ce = 0
     ·have HTXX := HTX.out out (by simpa using HLIN.out) (by rw [← HCE.out]; exact hce0)
      obtain ⟨G, gs, hgs, hTx⟩ := HTXX
      subst hce0
      have hLE := HLE.out
      rw [← hgs] at hLE
      obtain ⟨hag, hagl⟩ := lay_good hTx (decide (way ≤ 2)) way L hw.2.2.2
      have HBX3 := hiD (fun (w1 : World) (h1 : Below wr.heap.size wr w1) => boxes_call most SA sn sc NA nn nc l G gs way L w1 (hLE.below h1) hTx (by omega) (by omega) (by omega) hw.2.2.2 (decide (way ≤ 2)))
      obtain ⟨ag, hag2⟩ : ∃ ag, ag = layP (zOf most l) (decide (way ≤ 2)) way L gs := ⟨_, rfl⟩
      rw [← hag2] at hag hagl HBX3
      obtain ⟨rb, hrb⟩ : ∃ rb, rb = decide (way ≤ 2) := ⟨_, rfl⟩
      rw [← hrb] at HBX3
      have k41 := rows_call way L
      rw [← hrb] at k41
      have K41 := hiD k41
      have HAG := hiD hag
      have HAGL := hiD hagl
      have HAG2 := hiD hag2
      have HTXO := hiD hTx
      have HGS := hiD hgs
      clear hag hagl hag2 hrb k41 hTx hgs hLE
      go_wp2_with (go_at_call 47; refine HCK.out.mono ?_; rintro e w13 ⟨rfl, hbw13⟩; have q0 := bel_cell hbw13 hc0; have q1 := bel_cell hbw13 hc1; have q2 := bel_cell hbw13 hc2; have q3 := bel_cell hbw13 hc3; have q4 := bel_cell hbw13 hc4; have q5 := bel_frozen hbw13 hc4 hf4; have q6 := bel_cell hbw13 hcb; have HB13 := hiD hbw13; clear hbw13 hc0 hc1 hc2 hc3 hc4 hf4 hcb hfb n0 n4 nb)
      have n2 := lcc w13 _ q2
      have n0 := lcc w13 _ q0
      have n6 := lcc w13 _ q6
      have n13 := lcc w13 _ q4
      refine free_grown [1] [0, 2, 3, 6] [4, 5, 7] [8] (by kernel_rfl) (fun d _ _ _ _ h => by cases d <;> exact h) ?_
      simp only [List.filterMap_cons, List.filterMap_nil, List.getElem?_cons_succ, List.getElem?_cons_zero]
      repeat (refine wpPure_step (fun K hK => ?_); go_simp; refine hK _ ?_; clear hK K)
      refine wpPure_nil ?_
      refine wpTake_val rfl (lv most SA sn sc) (fun w' hg' => ?_) ?_
      ·have := hg'.cell q0
       have := hg'.cell q1
       go_simp
      refine wpTake_val rfl (.slice NA nn nc) (fun w' hg' => ?_) ?_
      ·have := hg'.cell q6
       go_simp
      refine wpTake_val rfl (pgv way L) (fun w' hg' => ?_) ?_
      ·have := hg'.cell q2
       have := hg'.cell q3
       go_simp
      refine wpTake_val rfl (pgv way L) (fun w' hg' => ?_) ?_
      ·have := hg'.cell q2
       have := hg'.cell q3
       go_simp
      refine wpTake_nil ?_
      refine wpU_step rfl (fun K hK => ?_)
      go_simp
      refine (K41.out w13.drew).mono ?_
      rintro e w14 ⟨rfl, hg14⟩
      have hw14 := (Gr.refl w13).drew.trans hg14
      refine hK.out _ _ hw14 ?_
      have HG14 := hiD hw14
      clear hK K hg14 hw14
      refine wpU_step rfl (fun K hK => ?_)
      go_simp
      refine hK.out _ _ HG14.out ?_
      clear hK K
      refine wpU_step rfl (fun K hK => ?_)
      go_simp
      refine (HBX3.out w13 HB13.out w14 HG14.out).mono ?_
      rintro e w15 ⟨bv0, rfl, hox, hg15⟩
      obtain ⟨BA, bc, hbv, hbr⟩ := own_boxRow hox (by have := HAGL.out; omega)
      obtain ⟨an, han⟩ : ∃ an, an = ag.length := ⟨_, rfl⟩
      rw [← han] at hbv
      subst hbv
      have hw15 := HG14.out.trans hg15
      refine hK.out _ _ hw15 ?_
      have HG15 := hiD hw15
      have HBR := hiD hbr
      have HAN := hiD han
      clear hK K hg15 hw15 hox hbr han q0 q1 q2 q3 n0 n2
      refine wpU_nil ?_
      go_upto_region 39 with fail
      have hb16 : (w15.alloc (.cells #[.func (.func 49) #[] #[]] 99)).cell? ⟨w15.heap.size, 0, none⟩ = some (.func (.func 49) #[] #[]) := by go_simp
      have hg16 : Gr w13 (w15.alloc (.cells #[.func (.func 49) #[] #[]] 99)) := HG15.out.alloc _
      have hbr16 := HBR.out.gr ((Gr.refl w15).alloc (.cells #[.func (.func 49) #[] #[]] 99))
      generalize w15.alloc (.cells #[.func (.func 49) #[] #[]] 99) = w16 at hb16 hg16 hbr16 ⊢
      obtain ⟨fb, hfb⟩ : ∃ fb, fb = w15.heap.size := ⟨_, rfl⟩
      rw [← hfb] at hb16 ⊢
      clear hfb
      have hbw16 : Below W.heap.size W w16 := HBW.out.trans ((HB13.out.trans (hg16.b.mono HB13.out.size)).mono hwW)
      have q4 := hg16.cell q4
      have q6 := hg16.cell q6
      have HON16 := hiD (OwnN.gr (OwnN.below HBX.out.own HB13.out) hg16)
      have q5 : w16.frozen? ⟨W.heap.size + 2, 0, none⟩ = false := (World.frozen?_of_block (hg16.b.block _ n13)).trans q5
      have hxr : BoxRow w16 A (xs.map raw) := HR.out.mono fun _ _ _ => BoxAt.below hbw16
      have HS1 := hiD (fun (w17 : World) (h : Gr w16 w17) => sorted_call (fun x => good x = true) 49 #[] totalC (ord_total _) BA bc ag w17 (fun w' n _ _ => cmp_total w' n) HAG.out (hbr16.mono fun _ _ _ => BoxAt.gr h) an HAN.out.symm (by have := HAGL.out; have := HAN.out; omega))
      have HS2 := hiD (fun (w17 : World) (h : Gr w16 w17) => sorted_call (fun x => good x = true) 49 #[] totalC (ord_total _) A c xs w17 (fun w' n _ _ => cmp_total w' n) HG.out (hxr.mono fun _ _ _ => BoxAt.gr h) k HL.out (by omega))
      have B16 := hiD hb16
      have HBW16 := hiD hbw16
      have Q4 := hiD q4
      have Q5 := hiD q5
      have Q6 := hiD q6
      clear hb16 hg16 hbr16 hbw16 hxr q4 q5 q6 n13 n6
      refine region_rel (relS [isV (.agg #[.func (.func 49) #[] #[]]), isV (.slice BA an bc), (fun (v : Value) (wx : World) => ∃ (A' : Option Addr) (c' : Nat) (ys : List PB), v = .slice A' an c' ∧ ys.Perm ag ∧ Srt totalC ys ∧ BoxRow wx A' (ys.map raw)), isV (.agg #[.func (.func 49) #[] #[]]), isV (.slice A k c), (fun (v : Value) (wx : World) => ∃ (A' : Option Addr) (c' : Nat) (ys : List PB), v = .slice A' k c' ∧ ys.Perm xs ∧ Srt totalC ys ∧ BoxRow wx A' (ys.map raw)), (fun (v : Value) (_wx : World) => ∃ (ys zs : List PB), ys.Perm ag ∧ Srt totalC ys ∧ zs.Perm xs ∧ Srt totalC zs ∧ v = .bool (decide (ys.map raw = zs.map raw))), (fun (v : Value) (_wx : World) => ∃ (ys zs : List PB), ys.Perm ag ∧ Srt totalC ys ∧ zs.Perm xs ∧ Srt totalC zs ∧ v = .bool (!decide (ys.map raw = zs.map raw)))]) mixed (by kernel_rfl) (by rfl) (relS_mono ⟨isV_mono _, isV_mono _, fun v w w' hg ⟨A', c', ys, e, h1, h2, h3⟩ => ⟨A', c', ys, e, h1, h2, h3.mono fun _ _ _ => BoxAt.gr hg⟩, isV_mono _, isV_mono _, fun v w w' hg ⟨A', c', ys, e, h1, h2, h3⟩ => ⟨A', c', ys, e, h1, h2, h3.mono fun _ _ _ => BoxAt.gr hg⟩, fun v w w' hg h => h, fun v w w' hg h => h, trivial⟩) ?_
      refine ⟨fun w1 hg hdep K hK => ?_, fun v0 => ?_⟩
      ·clear hdep
       have c0 := hg.cell B16.out
       have n0 := lcc w1 _ c0
       go_simp
       exact hK.out (.agg #[.func (.func 49) #[] #[]]) _ (Gr.refl _) rfl
      simp only [put_lit, List.setIfInBounds_toArray, List.set_cons_succ, List.set_cons_zero]
      refine ⟨fun w1 hg hdep K hK => ?_, fun v1 => ?_⟩
      ·clear hdep
       go_simp
       exact hK.out (.slice BA an bc) _ (Gr.refl _) rfl
      simp only [put_lit, List.setIfInBounds_toArray, List.set_cons_succ, List.set_cons_zero]
      refine ⟨fun w1 hg hdep K hK => ?_, fun v2 => ?_⟩
      ·have h0 : v0 = .agg #[.func (.func 49) #[] #[]] := hdep 0 (by kernel_rfl)
       subst h0
       have h1 : v1 = .slice BA an bc := hdep 1 (by kernel_rfl)
       subst h1
       clear hdep
       go_simp
       refine (HS1.out w1 hg).mono ?_
       rintro e w' ⟨hg', A', c', ys, rfl, p1, p2, p3, _⟩
       exact hK.out (.slice A' an c') w' hg' ⟨A', c', ys, rfl, p1, p2, p3⟩
      simp only [put_lit, List.setIfInBounds_toArray, List.set_cons_succ, List.set_cons_zero]
      refine ⟨fun w1 hg hdep K hK => ?_, fun v3 => ?_⟩
      ·clear hdep
       have c0 := hg.cell B16.out
       have n0 := lcc w1 _ c0
       go_simp
       exact hK.out (.agg #[.func (.func 49) #[] #[]]) _ (Gr.refl _) rfl
      simp only [put_lit, List.setIfInBounds_toArray, List.set_cons_succ, List.set_cons_zero]
      refine ⟨fun w1 hg hdep K hK => ?_, fun v4 => ?_⟩
      ·clear hdep
       go_simp
       exact hK.out (.slice A k c) _ (Gr.refl _) rfl
      simp only [put_lit, List.setIfInBounds_toArray, List.set_cons_succ, List.set_cons_zero]
      refine ⟨fun w1 hg hdep K hK => ?_, fun v5 => ?_⟩
      ·have h3 : v3 = .agg #[.func (.func 49) #[] #[]] := hdep 3 (by kernel_rfl)
       subst h3
       have h4 : v4 = .slice A k c := hdep 4 (by kernel_rfl)
       subst h4
       clear hdep
       go_simp
       refine (HS2.out w1 hg).mono ?_
       rintro e w' ⟨hg', A', c', ys, rfl, p1, p2, p3, _⟩
       exact hK.out (.slice A' k c') w' hg' ⟨A', c', ys, rfl, p1, p2, p3⟩
      simp only [put_lit, List.setIfInBounds_toArray, List.set_cons_succ, List.set_cons_zero]
      refine ⟨fun w1 hg hdep K hK => ?_, fun v6 => ?_⟩
      ·have h2 := show (fun (v : Value) (wx : World) => ∃ (A' : Option Addr) (c' : Nat) (ys : List PB), v = .slice A' an c' ∧ ys.Perm ag ∧ Srt totalC ys ∧ BoxRow wx A' (ys.map raw)) v2 w1 from hdep 2 (by kernel_rfl)
       have h5 := show (fun (v : Value) (wx : World) => ∃ (A' : Option Addr) (c' : Nat) (ys : List PB), v = .slice A' k c' ∧ ys.Perm xs ∧ Srt totalC ys ∧ BoxRow wx A' (ys.map raw)) v5 w1 from hdep 5 (by kernel_rfl)
       clear hdep
       obtain ⟨A1, c1, ys, e, p1, p2, p3⟩ := h2
       subst e
       obtain ⟨A2, c2, zs, e, r1, r2, r3⟩ := h5
       subst e
       have heq := equal_call A1 A2 c1 c2 (ys.map raw) (zs.map raw) w1 p3 r3
       rw [List.length_map, List.length_map, p1.length_eq, r1.length_eq, ← HAN.out, HL.out] at heq
       go_simp
       refine heq.mono ?_
       rintro e w' ⟨rfl, hg'⟩
       exact hK.out _ w' hg' ⟨ys, zs, p1, p2, r1, r2, rfl⟩
      simp only [put_lit, List.setIfInBounds_toArray, List.set_cons_succ, List.set_cons_zero]
      refine ⟨fun w1 hg hdep K hK => ?_, fun v7 => ?_⟩
      ·have h6 := show (fun (v : Value) (_wx : World) => ∃ (ys zs : List PB), ys.Perm ag ∧ Srt totalC ys ∧ zs.Perm xs ∧ Srt totalC zs ∧ v = .bool (decide (ys.map raw = zs.map raw))) v6 w1 from hdep 6 (by kernel_rfl)
       clear hdep
       obtain ⟨ys, zs, p1, p2, r1, r2, e⟩ := h6
       subst e
       go_simp
       exact hK.out _ _ (Gr.refl _) ⟨ys, zs, p1, p2, r1, r2, rfl⟩
      simp only [put_lit, List.setIfInBounds_toArray, List.set_cons_succ, List.set_cons_zero]
      intro w1 hg hs
      have h0 : v0 = .agg #[.func (.func 49) #[] #[]] := hs 0 (by decide)
      subst h0
      have h1 : v1 = .slice BA an bc := hs 1 (by decide)
      subst h1
      have h2 := show (fun (v : Value) (wx : World) => ∃ (A' : Option Addr) (c' : Nat) (ys : List PB), v = .slice A' an c' ∧ ys.Perm ag ∧ Srt totalC ys ∧ BoxRow wx A' (ys.map raw)) v2 w1 from hs 2 (by decide)
      have h3 : v3 = .agg #[.func (.func 49) #[] #[]] := hs 3 (by decide)
      subst h3
      have h4 : v4 = .slice A k c := hs 4 (by decide)
      subst h4
      have h5 := show (fun (v : Value) (wx : World) => ∃ (A' : Option Addr) (c' : Nat) (ys : List PB), v = .slice A' k c' ∧ ys.Perm xs ∧ Srt totalC ys ∧ BoxRow wx A' (ys.map raw)) v5 w1 from hs 5 (by decide)
      have h6 := show (fun (v : Value) (_wx : World) => ∃ (ys zs : List PB), ys.Perm ag ∧ Srt totalC ys ∧ zs.Perm xs ∧ Srt totalC zs ∧ v = .bool (decide (ys.map raw = zs.map raw))) v6 w1 from hs 6 (by decide)
      have h7 := show (fun (v : Value) (_wx : World) => ∃ (ys zs : List PB), ys.Perm ag ∧ Srt totalC ys ∧ zs.Perm xs ∧ Srt totalC zs ∧ v = .bool (!decide (ys.map raw = zs.map raw))) v7 w1 from hs 7 (by decide)
      clear hs
      obtain ⟨ys, zs, p1, p2, r1, r2, e⟩ := h7
      subst e
      have HB1 := hiD (HBW16.out.trans (hg.b.mono HBW16.out.size))
      have q4 := hg.cell Q4.out
      have q5 : w1.frozen? ⟨W.heap.size + 2, 0, none⟩ = false := (World.frozen?_of_block (hg.b.block _ (lcc w16 _ Q4.out))).trans Q5.out
      have q6 := hg.cell Q6.out
      have HON := hiD (OwnN.gr HON16.out hg)
      obtain ⟨bb, hbb⟩ : ∃ bb, bb = (!decide (ys.map raw = zs.map raw)) := ⟨_, rfl⟩
      rw [← hbb]
      have HBB := hiD hbb
      have P1 := hiD p1
      have P2 := hiD p2
      have R1 := hiD r1
      have R2 := hiD r2
      clear h2 h5 h6 hg p1 p2 r1 r2 hbb
      have n4 := lcc w1 _ q4
      have n6 := lcc w1 _ q6
      have HRB : ∀ er ns, AgainR most l way L xs out er ns → ReadR most l way L (xs.map raw) er ns := fun er ns ha => readR_some HE.out HG.out (by rw [← HTS.out]; exact HNB.out) (by rw [← HTS.out, HNT.out]; exact HLIN.out) ha
      have HRR := hiD HRB
      clear HRB
      cases bb
      ·have hyz : ys = zs := by
        have h := HBB.out
        have h2 : ys.map raw = zs.map raw := by simpa using h.symm
        exact (List.map_inj_right (fun a b hab => raw_inj hab)).1 h2
       have HYZ := hiD hyz
       clear hyz
       go_wp2_with fail
       refine bodyPost_ret (res33t Tryz.results11 rfl rfl (World.cell?_setCell_same' _ _ _ (by rw [q4]; rfl))) rfl ⟨0, out, _, HRR.out 0 out ?_, rfl, ?_, ?_⟩
       ·unfold AgainR
        rw [if_neg (by rw [← HCE.out]; simp)]
        exact ⟨G, gs, ys, zs, HGS.out, HTXO.out, by rw [← HAG2.out]; exact P1.out, P2.out, R1.out, R2.out, .inl ⟨HYZ.out, rfl, rfl⟩⟩
       ·exact OwnN.lower (OwnN.by HON.out (setCell_by _ _ _ _) (fun k2 e => by cases e; omega)) (by omega)
       ·exact HB1.out.setCell (p := ⟨W.heap.size + 2, 0, none⟩) (Nat.le_add_right _ _) _
      ·have hyz : ys ≠ zs := by
        intro h
        have h1 := HBB.out
        rw [h] at h1
        simp at h1
       have HYZ := hiD hyz
       clear hyz
       go_wp2_with fail
       exact read_bad HB1.out q4 41 rfl rfl (HRR.out 41 [] (by
        unfold AgainR
        rw [if_neg (by rw [← HCE.out]; simp)]
        exact ⟨G, gs, ys, zs, HGS.out, HTXO.out, by rw [← HAG2.out]; exact P1.out, P2.out, R1.out, R2.out, .inr ⟨HYZ.out, rfl, rfl⟩⟩))
     ·have d0 : (ce != 0) = true := by simp [hce0]
      have HCE0 := hiD hce0
      clear hce0
      go_wp2_with (go_at_call 47; refine HCK.out.mono ?_; rintro e w13 ⟨rfl, hbw13⟩; have q4 := bel_cell hbw13 hc4; have q5 := bel_frozen hbw13 hc4 hf4; have HB13 := hiD hbw13; clear hbw13)
      exact read_bad (HBW.out.trans (HB13.out.mono hwW)) q4 41 rfl rfl (readR_some HE.out HG.out (by rw [← HTS.out]; exact HNB.out) (by rw [← HTS.out, HNT.out]; exact HLIN.out) (by unfold AgainR; rw [if_pos (by rw [← HCE.out]; exact HCE0.out)]; exact ⟨rfl, rfl⟩))
end Go.Proofs.OGW
