import Derived.Test.YtmejcmollpbcfaaGreatP15
import Derived.Test.YtmejcmollpbcfaaGreatP38
set_option linter.all false
namespace Go.Proofs.OGW
open Go.RowKit Go.Sort OG Go.Shelf Go.PlainAid
attribute [local go_sem] sA fv sB sG sC Nat.zero_add
attribute [local go_sem ↓] ld66 ld51 st66 st51
theorem eq64v (x y : Value) : binOp .eql 64 x y = eqlV 64 x y := rfl
theorem eql64 (a b a' b' : Int) (w : World) : (eqlV 64 (.agg #[.int .i64 a, .int .i64 b]) (.agg #[.int .i64 a', .int .i64 b'])).run Tryz.prog w = .ok (.bool (decide (a = a') && decide (b = b'))) w := by
 rw [eqlV, run_eql_struct, show (10000 : Nat) = 9998 + 2 from rfl, eq64]
 have e : ((a == a') && ((b == b') && true)) = (decide (a = a') && decide (b = b')) := by rw [Bool.eq_iff_iff]; simp
 rw [e]; rfl
theorem guard64 (op : BinOp) (x y : Operand) (xs ys : Array Value) (w : World) : (eqGuard op 64 x y (.agg xs) (.agg ys)).run Tryz.prog w = .ok () w := run_eqGuard_agg w op 64 x y xs ys (by kernel_rfl)
attribute [local go_sem ↓] eq64v
attribute [local go_sem] eql64 guard64
structure FrC (W : World) (b : Nat) (q : Rat) : Prop where
 n : W.cell? ⟨b, 0, none⟩ = some (.int .i64 q.num)
 d : W.cell? ⟨b, 1, none⟩ = some (.int .i64 (q.den : Int))
set_option maxHeartbeats 1000000 in
theorem gap_call (s : Rat) (n : Int) (sb : Nat) (W : World) (hc : FrC W sb s) (h1 : -4611686018427387904 ≤ s.num * n) (h2 : s.num * n ≤ 4611686018427387904) (h3 : s.den ≤ 4611686018427387904) :
 Calls Tryz.prog 89 #[.int .i64 n, .pointer (some ⟨sb, 0, none⟩)] W fun e W' => ∃ b, e = .returned (.func (.func 90) #[] #[.pointer (some ⟨b, 0, none⟩)]) ∧ Gr W W' ∧ W.heap.size ≤ b ∧ FrC W' b (s * n) := by
 have HT := hiD (times1 s n h1 h2 h3)
 have c0 := hc.n
 have c1 := hc.d
 obtain ⟨q, hq⟩ : ∃ q : Rat, q = s * n := ⟨_, rfl⟩
 rw [← hq] at HT ⊢
 clear hc hq
 go_enter Tryz.func89, Tryz.ntmps89
 go_wp2_with (go_at_call 39; refine (HT.out.at _).mono ?_; rintro e w' ⟨rfl, q1, os, rfl⟩)
 go_ret
 exact ⟨_, rfl, gw, by simp, ⟨by go_simp, by go_simp⟩⟩
set_option maxHeartbeats 1000000 in
theorem gapEq_call (q g : Rat) (b : Nat) (W : World) (hc : FrC W b g) : Calls Tryz.prog 90 #[fv q, .pointer (some ⟨b, 0, none⟩)] W fun e W' => e = .returned (.bool (decide (q = g))) ∧ Gr W W' := by
 have c0 := hc.n
 have c1 := hc.d
 have hb := lcc W _ c0
 have hv : decide (q = g) = (decide (q.num = g.num) && decide ((q.den : Int) = (g.den : Int))) := by
  rw [Bool.eq_iff_iff]
  simp only [decide_eq_true_eq, Bool.and_eq_true]
  constructor
  ·rintro rfl; exact ⟨rfl, rfl⟩
  ·rintro ⟨h1, h2⟩; exact Rat.ext h1 (by omega)
 rw [hv]
 clear hc hv
 go_enter Tryz.func90, Tryz.ntmps90
 exact tZ92
theorem FrC.keep {W W' : World} {b : Nat} {q : Rat} (h : FrC W b q) (hk : W'.heap[b]? = W.heap[b]?) : FrC W' b q :=
 ⟨(World.cell?_of_block (a := ⟨b, 0, none⟩) hk).trans h.n, (World.cell?_of_block (a := ⟨b, 1, none⟩) hk).trans h.d⟩
theorem FrC.lt {W : World} {b : Nat} {q : Rat} (h : FrC W b q) : b < W.heap.size := lcc W _ h.n
theorem ap_gap (s : Rat) (n : Int) (b : Nat) (W : World) (hc : FrC W b (s * n)) : Ap W 90 #[.pointer (some ⟨b, 0, none⟩)] (gapIs s n) where
 ent := ent_of Tryz.func90 (by kernel_rfl) rfl
 call := fun x y w _ _ hs hk => gapEq_call (x - y) (s * n) b w (hc.keep (hk b hc.lt))
structure StepO (OB : Nat) (w w' : World) (v v' : Value) : Prop where
 os : w'.os = w.os
 tape : w'.tape = w.tape
 output : w'.output = w.output
 drawn : w.drawn ≤ w'.drawn
 size : w.heap.size ≤ w'.heap.size
 keep : ∀ k, k < w.heap.size → k ≠ OB → some k ≠ v.ownBlock → w'.heap[k]? = w.heap[k]?
 loc : v'.ownBlock = v.ownBlock ∨ ∀ k, v'.ownBlock = some k → w.heap.size ≤ k
theorem StepO.gr {OB : Nat} {w w' : World} (h : Gr w w') (v : Value) : StepO OB w w' v v := ⟨h.b.os, h.b.tape, h.b.output, h.d, h.b.size, fun k hk _ _ => h.b.block k hk, .inl rfl⟩
theorem StepO.trans {OB : Nat} {a b c : World} {u v x : Value} (h : StepO OB a b u v) (k : StepO OB b c v x) : StepO OB a c u x where
 os := k.os.trans h.os
 tape := k.tape.trans h.tape
 output := k.output.trans h.output
 drawn := Nat.le_trans h.drawn k.drawn
 size := Nat.le_trans h.size k.size
 keep n hn h1 h2 := by
  have h3 : some n ≠ v.ownBlock := by
   rcases h.loc with e | e
   ·rw [e]; exact h2
   ·intro e'; have := e n e'.symm; omega
  exact (k.keep n (Nat.lt_of_lt_of_le hn h.size) h1 h3).trans (h.keep n hn h1 h2)
 loc := by
  rcases k.loc with e | e
  ·rw [e]; exact h.loc
  ·exact .inr fun n hn => Nat.le_trans h.size (e n hn)
structure BoxO (OB B : Nat) (W : World) (v : Value) (out : List Nd) : Prop where
 box : W.heap[OB]? = some (.cells #[v] 31 (0, 0))
 own : OwnN W B v out
 lt : OB < B
theorem cell_of_box' {w : World} {b : Nat} {v : Value} {t : TypeId} (h : w.heap[b]? = some (.cells #[v] t (0, 0))) : w.cell? ⟨b, 0, none⟩ = some v ∧ w.frozen? ⟨b, 0, none⟩ = false := by
 constructor <;> simp [World.cell?, World.frozen?, h]
theorem BoxO.gr {OB B : Nat} {W W' : World} {v : Value} {out : List Nd} (h : BoxO OB B W v out) (hg : Gr W W') : BoxO OB B W' v out :=
 ⟨(hg.b.block OB (Array.getElem?_eq_some_iff.1 h.box).1).trans h.box, h.own.gr hg, h.lt⟩
theorem BoxO.step {OB B : Nat} {W w' : World} {v v' : Value} {out out' : List Nd} (h : BoxO OB B W v out) (hs : RowStep W w' v v') (ho : OwnN w' B v' out') :
 w'.heap[OB]? = some (.cells #[v] 31 (0, 0)) ∧ BoxO OB B (w'.setCell ⟨OB, 0, none⟩ v') v' out' ∧ StepO OB W (w'.setCell ⟨OB, 0, none⟩ v') v v' := by
 have hne : some OB ≠ v.ownBlock := fun e => by have := h.own.low _ e.symm; have := h.lt; omega
 have h1 := (hs.by'.block OB (Array.getElem?_eq_some_iff.1 h.box).1 hne).trans h.box
 obtain ⟨s1, s2, s3, s4⟩ := setCell_rest w' ⟨OB, 0, none⟩ v'
 refine ⟨h1, ⟨heap_setCell_same w' OB 0 #[v] 31 v' h1, ho.by (setCell_by _ _ _ _) (fun k e => by cases e; exact h.lt), h.lt⟩, ⟨s1.trans hs.by'.os, s2.trans hs.by'.tape, s3.trans hs.by'.output, by rw [s4]; exact hs.dr, by rw [setCell_size]; exact hs.by'.size, fun k hk h2 h3 => ?_, hs.loc⟩⟩
 exact (setCell_other w' OB 0 k v' h2).trans (hs.by'.block k hk h3)
structure CEnv (OB B sb gb ab cb : Nat) (s : Rat) (W : World) : Prop where
 sc : FrC W sb s
 g : W.cell? ⟨gb, 0, none⟩ = some (.func (.func 89) #[] #[.pointer (some ⟨sb, 0, none⟩)])
 a : W.cell? ⟨ab, 0, none⟩ = some (.func (.func 91) #[] #[.pointer (some ⟨cb, 0, none⟩)])
 c : W.cell? ⟨cb, 0, none⟩ = some (.func (.func 94) #[] #[.pointer (some ⟨OB, 0, none⟩), .pointer (some ⟨gb, 0, none⟩), .pointer (some ⟨ab, 0, none⟩)])
 ne : sb ≠ OB ∧ gb ≠ OB ∧ ab ≠ OB ∧ cb ≠ OB
 lt : sb < B ∧ gb < B ∧ ab < B ∧ cb < B
theorem CEnv.step {OB B sb gb ab cb : Nat} {s : Rat} {W W' : World} {v v' : Value} (h : CEnv OB B sb gb ab cb s W) (hs : StepO OB W W' v v') (hv : ∀ k, v.ownBlock = some k → B ≤ k) : CEnv OB B sb gb ab cb s W' := by
 have key : ∀ k, k < B → k ≠ OB → k < W.heap.size → W'.heap[k]? = W.heap[k]? := fun k h1 h2 h3 => hs.keep k h3 h2 (fun e => by have := hv k e.symm; omega)
 obtain ⟨n1, n2, n3, n4⟩ := h.ne
 obtain ⟨l1, l2, l3, l4⟩ := h.lt
 exact ⟨h.sc.keep (key sb l1 n1 h.sc.lt), (World.cell?_of_block (a := ⟨gb, 0, none⟩) (key gb l2 n2 (lcc W _ h.g))).trans h.g, (World.cell?_of_block (a := ⟨ab, 0, none⟩) (key ab l3 n3 (lcc W _ h.a))).trans h.a,
  (World.cell?_of_block (a := ⟨cb, 0, none⟩) (key cb l4 n4 (lcc W _ h.c))).trans h.c, h.ne, h.lt⟩
theorem CEnv.gr {OB B sb gb ab cb : Nat} {s : Rat} {W W' : World} (h : CEnv OB B sb gb ab cb s W) (hg : Gr W W') : CEnv OB B sb gb ab cb s W' :=
 ⟨⟨hg.cell h.sc.n, hg.cell h.sc.d⟩, hg.cell h.g, hg.cell h.a, hg.cell h.c, h.ne, h.lt⟩
def CutPost (OB B : Nat) (W : World) (v : Value) (out : List Nd) (N : Nat) (R : Option (List Nd) → Prop) (e : Ending) (W' : World) : Prop :=
 ∃ r v' out', R r ∧ e = .returned (.bool r.isSome) ∧ BoxO OB B W' v' out' ∧ StepO OB W W' v v' ∧ out'.length ≤ out.length + N ∧ ∀ ns, r = some ns → out' = out ++ ns
def cutN (n : Nat) : Nat := if n = 0 then 1 else 2 * n - 1
def CutOk (OB B sb gb ab cb : Nat) (s : Rat) (f : Nat) : Prop := ∀ (W : World) (v : Value) (out : List Nd) (A : Option Addr) (len c : Nat) (xs : List PB) (d : Int), d + f = 5 → CEnv OB B sb gb ab cb s W → BoxO OB B W v out → B ≤ W.heap.size → BoxRow W A (xs.map raw) → (∀ x ∈ xs, good x = true) → xs.length = len → len ≤ 1000 → out.length + cutN len ≤ 1000000 →
 Calls Tryz.prog 94 #[.slice A len c, .int .i64 d, .pointer (some ⟨OB, 0, none⟩), .pointer (some ⟨gb, 0, none⟩), .pointer (some ⟨ab, 0, none⟩)] W (CutPost OB B W v out (cutN len) (CutR s f d xs))
theorem scanGo_flat (ac : Bool) (ap : Rat → Bool) : ∀ (l : List PB) (e : Rat) (cur : List PB), (scanGo ac ap e cur l).flatten = cur ++ l
 | [], e, cur => by simp [scanGo]
 | b :: r, e, cur => by
   unfold scanGo
   split
   ·rw [List.flatten_cons, scanGo_flat]; simp
   ·rw [scanGo_flat]; simp
theorem scan_flat (ac : Bool) (ap : Rat → Bool) (l : List PB) : (scan ac ap l).flatten = l := by
 cases l with
 | nil => rfl
 | cons b r => rw [scan, scanGo_flat]; rfl
theorem scanGo_ne (ac : Bool) (ap : Rat → Bool) : ∀ (l : List PB) (e : Rat) (cur : List PB), cur ≠ [] → ∀ p ∈ scanGo ac ap e cur l, p ≠ []
 | [], e, cur, h, p, hp => by simp [scanGo] at hp; rw [hp]; exact h
 | b :: r, e, cur, h, p, hp => by
   unfold scanGo at hp
   split at hp
   ·rcases List.mem_cons.1 hp with rfl | hp
    ·exact h
    ·exact scanGo_ne ac ap r _ _ (by simp) p hp
   ·exact scanGo_ne ac ap r _ _ (by simp) p hp
theorem scan_ne (ac : Bool) (ap : Rat → Bool) (l : List PB) : ∀ p ∈ scan ac ap l, p ≠ [] := by
 cases l with
 | nil => intro p hp; simp [scan] at hp
 | cons b r => exact scanGo_ne ac ap r _ _ (by simp)
def allN : List (List PB) → Nat
 | [] => 0
 | p :: r => cutN p.length + allN r
theorem allN_eq : ∀ (ps : List (List PB)), (∀ p ∈ ps, p ≠ []) → allN ps + ps.length = 2 * ps.flatten.length
 | [], _ => rfl
 | p :: r, h => by
   have h1 := h p (by simp)
   have h2 : p.length ≠ 0 := fun e => h1 (List.eq_nil_of_length_eq_zero e)
   have h3 := allN_eq r (fun q hq => h q (by simp [hq]))
   rw [allN, List.flatten_cons, List.length_append, List.length_cons]
   unfold cutN
   rw [if_neg h2]
   omega
theorem allN_scan (ac : Bool) (ap : Rat → Bool) (l : List PB) (h : (scan ac ap l).length ≠ 1) : allN (scan ac ap l) + 1 ≤ cutN l.length := by
 have h1 := allN_eq _ (scan_ne ac ap l)
 rw [scan_flat] at h1
 unfold cutN
 split
 ·rename_i h0
  omega
 ·rename_i h0
  have : (scan ac ap l).length ≠ 0 := by
   intro e
   have := List.eq_nil_of_length_eq_zero e
   have h2 := scan_flat ac ap l
   rw [this] at h2
   simp at h2
   rw [h2] at h0
   simp at h0
  omega
end Go.Proofs.OGW
namespace Go.Proofs.OGW
open Go.RowKit Go.Sort OG Go.Shelf Go.PlainAid
attribute [local go_sem] sA fv sB sG sC Nat.zero_add
attribute [local go_sem ↓] ld66 ld51 st66 st51
def NotPost (OB B : Nat) (W : World) (v : Value) (out : List Nd) (N : Nat) (R : Option (List Nd) → Prop) (e : Ending) (W' : World) : Prop :=
 ∃ r v' out', R r ∧ e = .returned (.bool r.isNone) ∧ BoxO OB B W' v' out' ∧ StepO OB W W' v v' ∧ out'.length ≤ out.length + N ∧ ∀ ns, r = some ns → out' = out ++ ns
def IdxPost (OB B : Nat) (W : World) (v : Value) (out : List Nd) (N : Nat) (R : Option (List Nd) → Prop) (e : Ending) (W' : World) : Prop :=
 ∃ r v' out' j, R r ∧ e = .returned (.int .i64 j) ∧ decide (0 ≤ j) = r.isNone ∧ BoxO OB B W' v' out' ∧ StepO OB W W' v v' ∧ out'.length ≤ out.length + N ∧ ∀ ns, r = some ns → out' = out ++ ns
section
variable (OB B sb gb ab cb : Nat) (s : Rat) (f : Nat) (hCut : CutOk OB B sb gb ab cb s f)
include hCut
set_option maxHeartbeats 1000000 in
theorem not_call (W : World) (v : Value) (out : List Nd) (A : Option Addr) (len c : Nat) (xs : List PB) (d : Int) (db : Nat) (hd : d + f = 5) (hE : CEnv OB B sb gb ab cb s W) (hX : BoxO OB B W v out) (hB : B ≤ W.heap.size) (hr : BoxRow W A (xs.map raw)) (hg : ∀ x ∈ xs, good x = true) (hl : xs.length = len) (hlen : len ≤ 1000) (ho : out.length + cutN len ≤ 1000000)
 (hdb : W.cell? ⟨db, 0, none⟩ = some (.int .i64 d)) :
 Calls Tryz.prog 93 #[.slice A len c, .pointer (some ⟨cb, 0, none⟩), .pointer (some ⟨db, 0, none⟩)] W (NotPost OB B W v out (cutN len) (CutR s f d xs)) := by
 have hc := hCut W v out A len c xs d hd hE hX hB hr hg hl hlen ho
 have HC := hiD hc
 have cc := hE.c
 have eg := ent_of (f := 94) Tryz.func94 (by kernel_rfl) rfl
 clear hc hE hX hr hg hl hCut
 go_enter Tryz.func93, Tryz.ntmps93
 go_wp2_with (go_at_fn 94; refine HC.out.mono ?_; rintro e w' ⟨r, v', out', h1, rfl, h2⟩; have H1 := hiD h1; have H2 := hiD h2; clear h1 h2)
 go_ret
 exact ⟨r, v', out', H1.out, rfl, H2.out⟩
set_option maxRecDepth 100000 in
set_option maxHeartbeats 4000000 in
theorem idx_call (W : World) (v : Value) (out : List Nd) (P : Option Addr) (n c : Nat) (parts : List (List PB)) (d : Int) (db : Nat) (hd : d + f = 5) (hE : CEnv OB B sb gb ab cb s W) (hX : BoxO OB B W v out) (hB : B ≤ W.heap.size)
 (hP : ∀ W2 v2, StepO OB W W2 v v2 → PartRow W2 P parts) (hg : ∀ p ∈ parts, ∀ x ∈ p, good x = true) (hl : parts.length = n) (hlen : n ≤ 1000) (hpl : ∀ p ∈ parts, p.length ≤ 1000) (ho : out.length + allN parts ≤ 1000000)
 (hdb : ∀ W2 v2, StepO OB W W2 v v2 → W2.cell? ⟨db, 0, none⟩ = some (.int .i64 d)) :
 Calls Tryz.prog 146 #[.slice P n c, .func (.func 93) #[] #[.pointer (some ⟨cb, 0, none⟩), .pointer (some ⟨db, 0, none⟩)]] W (IdxPost OB B W v out (allN parts) (AllR (CutR s f d) parts)) := by
 have HE := hiD hE
 have HX := hiD hX
 have HP := hiD hP
 have HG := hiD hg
 have HL := hiD hl
 have HPL := hiD hpl
 have HDB := hiD hdb
 have HCUT := hiD hCut
 have eg := ent_of (f := 93) Tryz.func93 (by kernel_rfl) rfl
 clear hE hX hP hg hl hpl hdb hCut
 go_enter Tryz.func146, Tryz.ntmps146
 go_wp2
 go_loopw [8] (fun i wr => ∃ (k : Nat) (v1 : Value) (acc : List Nd), i = .int .i64 k ∧ k ≤ n ∧ out.length + acc.length + allN (parts.drop k) ≤ out.length + allN parts ∧ Hid (BoxO OB B wr v1 (out ++ acc)) ∧ Hid (StepO OB W wr v v1) ∧
  Hid (∀ r', AllR (CutR s f d) (parts.drop k) r' → AllR (CutR s f d) parts (r'.map (acc ++ ·)))) (fun i _ => n - (intOf i).toNat)
 case atStart => exact ⟨0, v, [], rfl, Nat.zero_le _, by simp, by show BoxO OB B W v (out ++ []); rw [List.append_nil]; exact HX.out, StepO.gr (Gr.refl _) _, fun r' h => by simpa using h⟩
 case round =>
  obtain ⟨k, v1, acc, rfl, hk, hac, HX1, HS1, HA⟩ := hrel
  by_cases hlt : k < n
  ·obtain ⟨p, hp⟩ : ∃ p, parts[k]? = some p := ⟨_, gE (by rw [HL.out]; exact hlt)⟩
   obtain ⟨blk, off, rfl, A, c1, hcell, hrow⟩ := (HP.out wr v1 HS1.out).2 k p hp
   have hpm := List.mem_of_getElem? hp
   have hdrop : parts.drop k = p :: parts.drop (k + 1) := by
    rw [List.drop_eq_getElem_cons (gO hp).1, (gO hp).2]
   rw [hdrop, allN] at hac
   have hE1 := HE.out.step HS1.out HX.out.own.low
   have hcl := not_call OB B sb gb ab cb s f HCUT.out wr v1 (out ++ acc) A p.length c1 p d db hd hE1 HX1.out (Nat.le_trans hB HS1.out.size) hrow (HG.out p hpm) rfl (HPL.out p hpm) (by rw [List.length_append]; omega) (HDB.out wr v1 HS1.out)
   have HCL := hiD hcl
   have HDR := hiD hdrop
   have HAC := hiD hac
   have hd1 : decide ((k : Int) < (n : Int)) = true := by simp; omega
   simp only [Nat.mul_one] at hcell
   clear hp hrow hpm hdrop hE1 hcl
   go_wp2_with (go_at_fn 93; refine HCL.out.mono ?_; rintro e w' ⟨r, v2, out2, h1, rfl, h2⟩; have H1 := hiD h1; have H2 := hiD h2; clear h1 h2; cases r)
   ·go_ret
    obtain ⟨h1, h2, h3, _⟩ := H2.out
    refine ⟨none, v2, out2, k, ?_, rfl, by simp, h1, HS1.out.trans h2, ?_, fun ns h => by cases h⟩
    ·have := HA.out none (by rw [HDR.out]; exact .inl ⟨H1.out, rfl⟩)
     simpa using this
    ·have := HAC.out; rw [List.length_append] at h3; omega
   ·rename_i ns
    go_roundw
    case rel =>
     obtain ⟨h1, h2, h3, h4⟩ := H2.out
     have h5 := h4 ns rfl
     refine ⟨k + 1, v2, acc ++ ns, by go_num, by omega, ?_, by show BoxO OB B w' v2 (out ++ (acc ++ ns)); rw [← List.append_assoc, ← h5]; exact h1, HS1.out.trans h2, fun r' h => ?_⟩
     ·have := HAC.out; rw [h5] at h3; simp only [List.length_append] at h3 ⊢; omega
     ·have := HA.out (r'.map (ns ++ ·)) (by rw [HDR.out]; exact .inr ⟨ns, r', H1.out, h, rfl⟩)
      rw [Option.map_map] at this
      have e : ((fun x => acc ++ x) ∘ fun x => ns ++ x) = fun x => acc ++ ns ++ x := by funext x; simp
      rw [e] at this
      exact this
    case measure => simp [intOf]; omega
  ·obtain rfl : k = n := by omega
   have hd1 : decide ((k : Int) < (k : Int)) = false := by simp
   have hR : AllR (CutR s f d) parts (some acc) := by
    have := HA.out (some []) (by rw [List.drop_eq_nil_of_le (by rw [HL.out]; exact Nat.le_refl _)]; rfl)
    simpa using this
   have HR := hiD hR
   clear hR
   go_wp2_with fail
   go_ret
   refine ⟨some acc, v1, out ++ acc, -1, HR.out, rfl, by simp, HX1.out, HS1.out, by rw [List.length_append]; omega, fun ns h => by cases h; rfl⟩
set_option maxHeartbeats 1000000 in
theorem any_call (W : World) (v : Value) (out : List Nd) (P : Option Addr) (n c : Nat) (parts : List (List PB)) (d : Int) (db : Nat) (hd : d + f = 5) (hE : CEnv OB B sb gb ab cb s W) (hX : BoxO OB B W v out) (hB : B ≤ W.heap.size)
 (hP : ∀ W2 v2, StepO OB W W2 v v2 → PartRow W2 P parts) (hg : ∀ p ∈ parts, ∀ x ∈ p, good x = true) (hl : parts.length = n) (hlen : n ≤ 1000) (hpl : ∀ p ∈ parts, p.length ≤ 1000) (ho : out.length + allN parts ≤ 1000000)
 (hdb : ∀ W2 v2, StepO OB W W2 v v2 → W2.cell? ⟨db, 0, none⟩ = some (.int .i64 d)) :
 Calls Tryz.prog 92 #[.slice P n c, .func (.func 93) #[] #[.pointer (some ⟨cb, 0, none⟩), .pointer (some ⟨db, 0, none⟩)]] W (NotPost OB B W v out (allN parts) (AllR (CutR s f d) parts)) := by
 have HC := hiD (idx_call OB B sb gb ab cb s f hCut W v out P n c parts d db hd hE hX hB hP hg hl hlen hpl ho hdb)
 clear hE hX hP hg hl hpl hdb hCut
 go_enter Tryz.func92, Tryz.ntmps92
 go_wp2_with (go_at_call 146; refine HC.out.mono ?_; rintro e w' ⟨r, v', out', j, h1, rfl, hj, h2⟩; have H1 := hiD h1; have H2 := hiD h2; have HJ := hiD hj; clear h1 h2 hj)
 go_ret
 exact ⟨r, v', out', H1.out, by rw [← HJ.out]; rfl, H2.out⟩
set_option maxHeartbeats 2000000 in
theorem all_call (W : World) (v : Value) (out : List Nd) (P : Option Addr) (n c : Nat) (parts : List (List PB)) (d : Int) (hd : d + f = 5) (hE : CEnv OB B sb gb ab cb s W) (hX : BoxO OB B W v out) (hB : B ≤ W.heap.size)
 (hP : ∀ W2 v2, StepO OB W W2 v v2 → PartRow W2 P parts) (hg : ∀ p ∈ parts, ∀ x ∈ p, good x = true) (hl : parts.length = n) (hlen : n ≤ 1000) (hpl : ∀ p ∈ parts, p.length ≤ 1000) (ho : out.length + allN parts ≤ 1000000) :
 Calls Tryz.prog 91 #[.slice P n c, .int .i64 d, .pointer (some ⟨cb, 0, none⟩)] W (CutPost OB B W v out (allN parts) (AllR (CutR s f d) parts)) := by
 have g1 : Gr W (W.alloc (.cells #[.int .i64 d] 3)) := (Gr.refl W).alloc _
 have hlt := hX.own.lt
 have hOB := hX.lt
 have HC := hiD (any_call OB B sb gb ab cb s f hCut (W.alloc (.cells #[.int .i64 d] 3)) v out P n c parts d W.heap.size hd (hE.gr g1) (hX.gr g1) (Nat.le_trans hB g1.b.size) (fun W2 v2 h => hP W2 v2 ((StepO.gr g1 v).trans h)) hg hl hlen hpl ho
  (fun W2 v2 h => (World.cell?_of_block (a := ⟨W.heap.size, 0, none⟩) (h.keep W.heap.size (by simp) (by omega) (fun e => by have := (hlt _ e.symm).2; omega))).trans (by go_simp)))
 have G1 := hiD g1
 clear hE hX hP hg hl hpl hCut g1 hlt
 go_enter Tryz.func91, Tryz.ntmps91
 go_wp2_with (go_at_call 92; refine HC.out.mono ?_; rintro e w' ⟨r, v', out', h1, rfl, h2, h3, h4⟩; have H1 := hiD h1; have H2 := hiD h2; have H3 := hiD h3; have H4 := hiD h4; clear h1 h2 h3 h4)
 go_ret
 exact ⟨r, v', out', H1.out, by cases r <;> rfl, H2.out, (StepO.gr G1.out v).trans H3.out, H4.out⟩
end
end Go.Proofs.OGW
