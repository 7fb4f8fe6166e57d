import Derived.Deep.CutRange
import Derived.Test.YtmejcmollpbcfaaGreatP10
set_option linter.all false
namespace Go.Proofs.OGW
open Go.RowKit Go.Sort OG Go.Shelf
attribute [local go_sem] sA fv sB sG sC Nat.zero_add
attribute [local go_sem ↓] ld66 ld51 st66 st51
structure Ap (w0 : World) (g : FuncId) (lb : Array Value) (ap : Rat → Bool) : Prop where
 ent : ∀ args w, (callFunc g args).run Tryz.prog w = .ok (.enter g args) w
 call : ∀ a b w, vld a = true → vld b = true → w0.heap.size ≤ w.heap.size → (∀ k, k < w0.heap.size → w.heap[k]? = w0.heap[k]?) → Calls Tryz.prog g (#[fv (a - b)] ++ lb) w fun e w' => e = .returned (.bool (ap (a - b))) ∧ Gr w w'
theorem Ap.at {w0 w : World} {g : FuncId} {lb : Array Value} {ap : Rat → Bool} (h : Ap w0 g lb ap) (hs : w0.heap.size ≤ w.heap.size) (hk : ∀ k, k < w0.heap.size → w.heap[k]? = w0.heap[k]?) {a b : Rat} (ha : vld a = true) (hb : vld b = true) (m : Nat) (os : Array Obj) :
 Calls Tryz.prog g (#[fv (a - b)] ++ lb) (Sort.grow (w.drewN m) os) fun e w'' => e = .returned (.bool (ap (a - b))) ∧ ∃ p : GrownBy, w'' = Sort.grow (w.drewN p.n) p.os := by
 have hg := Gr.of_eq (w := w) m os
 exact Calls.grown_of ((h.call a b _ ha hb (Nat.le_trans hs hg.b.size) (fun k hk' => (hg.b.block k (Nat.lt_of_lt_of_le hk' hs)).trans (hk k hk'))).mono fun _ _ ⟨he, hg⟩ => ⟨he, hg.eq⟩)
theorem Upto.below {w w0 w' : World} {n8 : Nat} (h : Upto w0 n8 w') (hg : Gr w w0) (hn : w.heap.size ≤ n8) : w.heap.size ≤ w'.heap.size ∧ ∀ k, k < w.heap.size → w'.heap[k]? = w.heap[k]? :=
 ⟨Nat.le_trans hg.b.size h.size, fun k hk => (h.keep k (Nat.lt_of_lt_of_le hk hg.b.size) (by omega)).trans (hg.b.block k hk)⟩
theorem Upto.boxRow {w0 w' : World} {n8 g : Nat} {l : List RBox} (h : Upto w0 n8 w') (hne : g ≠ n8) (hr : BoxRow w0 (some ⟨g, 0, none⟩) l) : BoxRow w' (some ⟨g, 0, none⟩) l := by
 refine ⟨hr.1, fun j x hx => ?_⟩
 obtain ⟨b, o, e, k⟩ := hr.2 j x hx
 obtain ⟨rfl, rfl⟩ : g = b ∧ 0 = o := by injection e with e; injection e; exact ⟨‹_›, ‹_›⟩
 exact ⟨g, 0, rfl, rowV_of rfl fun i v hv => h.cell hne (k.cell i v (by simpa using hv))⟩
def good (p : PB) : Bool := vld p.x && vld p.y && vld p.w && vld p.h && placedP p
theorem good.from {p : PB} (h : good p = true) (ac : Bool) : vld (fr ac p) = true := by
 simp only [good, Bool.and_eq_true] at h
 cases ac <;> simp [fr, h]
theorem good.to {p : PB} (h : good p = true) (ac : Bool) : vld (OG.to ac p) = true := by
 simp only [good, placedP, Bool.and_eq_true] at h
 cases ac <;> simp [OG.to, fr, ex, h]
theorem cmpR_nn (a b : Rat) : 0 ≤ cmpR b a ↔ a ≤ b := by
 unfold cmpR
 by_cases h : b < a
 ·simp only [h, if_true]
  exact ⟨fun h => by omega, fun h2 => by grind⟩
 ·simp only [h, if_false]
  refine ⟨fun _ => Rat.not_lt.1 h, fun _ => ?_⟩
  split <;> omega
theorem cmp_ord (ac : Bool) (S : PB → Prop) : Ord S (fun x y => cmpR (fr ac x) (fr ac y)) where
 trans x y z _ _ _ h1 h2 := by rw [cmpR_nn] at *; exact Rat.le_trans h1 h2
 anti x y _ _ h := by
  rw [cmpR_nn]
  by_cases h2 : fr ac x ≤ fr ac y
  ·exact h2
  ·have : fr ac y ≤ fr ac x := by grind
   have := (cmpR_nn (fr ac y) (fr ac x)).2 this
   omega
theorem srt_sorted {ac : Bool} {l : List PB} (h : Srt (fun x y => cmpR (fr ac x) (fr ac y)) l) : Sorted ac l := by
 unfold Srt at h
 unfold Sorted
 exact h.imp (fun h => (cmpR_nn _ _).1 h)
theorem ent_of {f : FuncId} {fn : Func} {c : Code} (hf : Tryz.prog.funcs[f]? = some fn) (hn : (fn.name == "runtime.NumGoroutine") = false) (hb : fn.body = some c) (args : Array Value) (w : World) :
 (callFunc f args).run Tryz.prog w = .ok (.enter f args) w := by
 have h1 : fn.name ≠ "runtime.NumGoroutine" := by simpa using hn
 simp [callFunc, hf, h1, hb]
theorem cmp_begins (ac : Bool) (b : Nat) (w : World) (hc : w.cell? ⟨b, 0, none⟩ = some (.bool ac)) (w' : World) (n : Nat) (hg : Gr w w') (hn : w.heap.size ≤ n) : Cmp w' n (fun x => good x = true) 143 #[.pointer (some ⟨b, 0, none⟩)] (fun x y => cmpR (fr ac x) (fr ac y)) where
 ent := ent_of Tryz.func143 (by kernel_rfl) rfl
 call := fun x y w2 hx hy hs hk => begins1_call ac x y (good.from hx ac) (good.from hy ac) b w2 (by
  have hb := lcc w _ hc
  have h1 := hg.cell hc
  exact (World.cell?_of_block (hk b (Nat.lt_of_lt_of_le hb hg.b.size) (by simp at hb; omega))).trans h1)
theorem info25 : (Tryz.prog.info? 25).map (fun i => (i.zero, i.size, i.bytes)) = some (some (.slice none 0 0), 1, 24) := by kernel_rfl
theorem set2 {w : World} {n : Nat} {a b x y : Value} {t : TypeId} (h : w.heap[n]? = some (.cells #[a, b] t (0, 0))) : ((w.setCell ⟨n, 0, none⟩ x).setCell ⟨n, 1, none⟩ y).heap[n]? = some (.cells #[x, y] t (0, 0)) := by
 have h1 := heap_setCell_same w n 0 #[a, b] t x h
 have h2 := heap_setCell_same (w.setCell ⟨n, 0, none⟩ x) n 1 _ t y h1
 rw [h2]
 rfl
theorem set2_by (w : World) (n : Nat) (x y : Value) : w.grownBy ((w.setCell ⟨n, 0, none⟩ x).setCell ⟨n, 1, none⟩ y) (some n) := by
 have h1 := setCell_by w n 0 x
 have h2 := setCell_by (w.setCell ⟨n, 0, none⟩ x) n 1 y
 exact ⟨h2.os.trans h1.os, h2.tape.trans h1.tape, h2.output.trans h1.output, Nat.le_trans h1.size h2.size, fun k hk hne => (h2.block k (Nat.lt_of_lt_of_le hk h1.size) hne).trans (h1.block k hk hne)⟩
theorem rowV_by {w w' : World} {row : Option Nat} {n : Nat} {b : RBox} (h : rowV 15 w n 0 = some (bv b)) (hg : w.grownBy w' row) (hne : some n ≠ row) : rowV 15 w' n 0 = some (bv b) :=
 rowV_of rfl fun j v hv => hg.cell (rowV_cell h j v (by simpa using hv)) hne
theorem rowV_lt {w : World} {n : Nat} {b : RBox} (h : rowV 15 w n 0 = some (bv b)) : n < w.heap.size := lcc w _ (rowV_cell h 0 _ rfl)
theorem ownsRow_agree {w W2 : World} {B e size n : Nat} {v : Value} {xs : List Value} (h : w.ownsRow B e size v n xs) (ha : ∀ k, B ≤ k → k < w.heap.size → W2.heap[k]? = w.heap[k]?) : W2.ownsRow B e size v n xs :=
 ⟨h.1, h.2.imp id fun ⟨g, cap, cur, e, hb, hg, rest⟩ => ⟨g, cap, cur, e, hb, (ha g hb (Array.getElem?_eq_some_iff.1 hg).1).trans hg, rest⟩⟩
theorem NestH.agree {w W2 : World} {B : Nat} {v : Value} {hs : List Value} {parts : List (List PB)} (h : NestH w B v hs parts) (ha : ∀ k, B ≤ k → k < w.heap.size → W2.heap[k]? = w.heap[k]?) : NestH W2 B v hs parts :=
 ⟨ownsRow_agree h.out ha, fun k x p h1 h2 => ⟨ownsRow_agree (h.inn k x p h1 h2).1 ha, (h.inn k x p h1 h2).2⟩, h.apart⟩
theorem NestH.read2 {w : World} {B : Nat} {v : Value} {hs : List Value} {parts : List (List PB)} (h : NestH w B v hs parts) (hp : parts.length ≤ 140737488355328) (hq : ∀ p ∈ parts, p.length ≤ 140737488355328) :
 ∃ A c, v = .slice A parts.length c ∧ ∀ W2 : World, (∀ k, B ≤ k → k < w.heap.size → W2.heap[k]? = w.heap[k]?) → PartRow W2 A parts := by
 obtain ⟨A, c, rfl, _⟩ := h.read hp hq
 refine ⟨A, c, rfl, fun W2 ha => ?_⟩
 obtain ⟨A', c', e, hr⟩ := (h.agree ha).read hp hq
 injection e with e1 e2 e3
 rw [e1]; exact hr
structure SplitSt (ac : Bool) (ap : Rat → Bool) (ys : List PB) (k : Nat) (parts : List (List PB)) (en ed : Int) : Prop where
 st : (k = 0 ∧ parts = []) ∨ (0 < k ∧ ∃ P0 cur e, parts = P0 ++ [cur] ∧ scan ac ap ys = P0 ++ scanGo ac ap e cur (ys.drop k) ∧ en = e.num ∧ ed = (e.den : Int) ∧ vld e = true)
 len : parts.length ≤ k
 lens : ∀ p ∈ parts, p.length ≤ k
set_option maxHeartbeats 4000000 in
set_option maxRecDepth 100000 in
theorem split_call (w : World) (A : Option Addr) (c : Nat) (xs : List PB) (ac : Bool) (g : FuncId) (lb : Array Value) (ap : Rat → Bool) (hAp : Ap w g lb ap) (hr : BoxRow w A (xs.map raw)) (hgood : ∀ x ∈ xs, good x = true) (len : Nat) (hl : xs.length = len) (hlen : len ≤ 1000000) :
 Calls Tryz.prog 42 #[.slice A len c, .bool ac, .func (.func g) #[] lb] w fun e w' => Gr w w' ∧ ∃ A' c' ys, ys.Perm xs ∧ Sorted ac ys ∧ e = .returned (.slice A' (scan ac ap ys).length c') ∧ ∀ W2 : World, (∀ k, w.heap.size ≤ k → k < w'.heap.size → W2.heap[k]? = w'.heap[k]?) → PartRow W2 A' (scan ac ap ys) := by
 have HAP := hiD hAp
 have HR := hiD hr
 have HG := hiD hgood
 have HL := hiD hl
 have eg := hAp.ent
 clear hAp hr hgood hl
 go_enter Tryz.func42, Tryz.ntmps42
 go_wp2_with fail
 refine (begins_call ac _).mono ?_
 rintro e w1 ⟨hg1, b0, rfl, hb0, hc0⟩
 have HC0 := hiD hc0
 clear hc0
 have G1 := hiD (((Gr.refl w).alloc _).trans hg1)
 have n1 : w1.heap[w.heap.size]? = some (.cells #[.int .i64 0, .int .i64 0] 64 (0, 0)) := (hg1.b.block w.heap.size (by simp)).trans (heap_alloc_new w _)
 have N1 := hiD n1
 have s1 : w.heap.size < w1.heap.size := by have := hg1.b.size; simp at this; omega
 clear n1 hg1
 go_wp2_with fail
 refine (sorted_call (fun x => good x = true) 143 _ (fun x y => cmpR (fr ac x) (fr ac y)) (cmp_ord ac _) A c xs w1 (fun w' n hg hn => cmp_begins ac b0 w1 HC0.out w' n hg hn) HG.out (HR.out.gr G1.out) len HL.out hlen).mono ?_
 rintro e w2 ⟨hg2, A', c', ys, rfl, hP, hSrt, hrow, hA'⟩
 have G2 := hiD (G1.out.trans hg2)
 have n2 : w2.heap[w.heap.size]? = some (.cells #[.int .i64 0, .int .i64 0] 64 (0, 0)) := (hg2.b.block w.heap.size s1).trans N1.out
 have N2 := hiD n2
 have s2 : w.heap.size < w2.heap.size := Nat.lt_of_lt_of_le s1 hg2.b.size
 have HP := hiD hP
 have HS := hiD hSrt
 have HROW := hiD hrow
 have HA := hiD hA'
 have SW2 := hiD (Nat.le_of_lt s2)
 clear n2 hg2 hP hSrt hrow hA' hb0
 go_wp2
 go_loopw [7, 16] (fun v7 i wr => ∃ (k : Nat) (parts : List (List PB)) (hs : List Value) (en ed : Int), i = .int .i64 k ∧ k ≤ len ∧ Hid (NestH wr w2.heap.size v7 hs parts) ∧ Hid (wr.heap[w.heap.size]? = some (.cells #[.int .i64 en, .int .i64 ed] 64 (0, 0))) ∧ Hid (Upto w2 w.heap.size wr) ∧ Hid (SplitSt ac ap ys k parts en ed)) (fun _ i _ => len - (intOf i).toNat)
 case atStart => exact ⟨0, [], [], 0, 0, rfl, Nat.zero_le _, NestH.nil _ _, N2.out, Upto.refl _ _, ⟨.inl ⟨rfl, rfl⟩, by simp, by simp⟩⟩
 case round =>
  obtain ⟨k, parts, hs, en, ed, rfl, hk, HN, HE, HU, HST⟩ := hrel
  have hyl : ys.length = len := by rw [HP.out.length_eq, HL.out]
  have HYL := hiD hyl
  clear hyl
  by_cases hlt : k < len
  ·obtain ⟨b, hb⟩ : ∃ b, ys[k]? = some b := ⟨_, gE (by rw [HYL.out]; exact hlt)⟩
   have hgb : good b = true := HG.out b (HP.out.mem_iff.1 (List.mem_of_getElem? hb))
   have hx : xs ≠ [] := fun h => by have := HL.out; rw [h] at this; simp at this; omega
   obtain ⟨gA, rfl, hgA⟩ := HA.out hx
   have hrowR := HU.out.boxRow (g := gA) (by omega) HROW.out
   have lb : rowV 15 wr gA (k * 15) = some (pv b) := by
    obtain ⟨bb, oo, e, h⟩ := hrowR.2 k (raw b) (by simp [hb])
    obtain ⟨rfl, rfl⟩ : gA = bb ∧ 0 = oo := by injection e with e; injection e; exact ⟨‹_›, ‹_›⟩
    rw [Nat.zero_add] at h
    exact h
   have hgA2 : gA < w2.heap.size := by
    obtain ⟨bb, oo, e, h⟩ := HROW.out.2 k (raw b) (by simp [hb])
    obtain ⟨rfl, rfl⟩ : gA = bb ∧ 0 = oo := by injection e with e; injection e; exact ⟨‹_›, ‹_›⟩
    exact lcc w2 _ (h.cell 0 _ rfl)
   have sz : w2.heap.size ≤ wr.heap.size := HU.out.size
   have hgA3 : gA < wr.heap.size := by omega
   have n8 : w.heap.size < wr.heap.size := by omega
   have HB := hiD hb
   have HGB := hiD hgb
   clear hb hgb hrowR
   have hd : decide ((k : Int) < (len : Int)) = true := by simp; omega
   obtain ⟨e, P0, cur, hst⟩ : ∃ (e : Rat) (P0 : List (List PB)) (cur : List PB), (k = 0 ∧ parts = []) ∨ (0 < k ∧ parts = P0 ++ [cur] ∧ scan ac ap ys = P0 ++ scanGo ac ap e cur (ys.drop k) ∧ en = e.num ∧ ed = (e.den : Int) ∧ vld e = true) := by
    rcases HST.out.st with h | ⟨h0, P0, cur, e, h⟩
    ·exact ⟨0, [], [], .inl h⟩
    ·exact ⟨e, P0, cur, .inr ⟨h0, h⟩⟩
   have HS2 := hiD hst
   clear hst
   go_upto_region 6 with fail
   go_cut [16, 31] from 17 to 57 (fun s16 s31 wx => ∃ bb : Bool, s16 = .int .i64 k ∧ s31 = .bool bb ∧ Hid (bb = true ↔ (k = 0 ∨ ap (fr ac b - e) = true)) ∧ Gr (wr.alloc (.cells (bcells (raw b)).toArray 66)) wx)
   case first =>
    rcases HS2.out with ⟨rfl, rfl⟩ | ⟨h0, rfl, hsc, rfl, rfl, hve⟩
    ·go_wp2_with fail
     refine wp_region_quiet_grown mixed (by kernel_rfl) ?_
     repeat (go_big_quiet_step (fail))
     refine wpQuiet_nil ?_
     rintro w' ⟨⟨nq, osq⟩, rfl⟩
     go_wp2_with fail
     go_meet
     case rel => exact ⟨true, rfl, rfl, by simp [Hid], gw⟩
    ·have hd2 : ((k : Int) == 0) = false := by simp; omega
     have c0 : wr.cell? ⟨w.heap.size, 0, none⟩ = some (.int .i64 e.num) := cell_of_row wr w.heap.size 0 _ 64 (0, 0) HE.out
     have c1 : wr.cell? ⟨w.heap.size, 1, none⟩ = some (.int .i64 (e.den : Int)) := cell_of_row wr w.heap.size 1 _ 64 (0, 0) HE.out
     have f1 := from_call b ac
     have f2 := sub_v (good.from HGB.out ac) hve
     have hb := HU.out.below G2.out (Nat.le_refl _)
     have f3 := fun m os => HAP.out.at (w := wr.alloc (.cells (bcells (raw b)).toArray 66)) (by simp; omega) (fun j hj => ((World.grownBy_alloc wr _ none).block j (by omega) (by simp)).trans (hb.2 j hj)) (good.from HGB.out ac) hve m os
     clear hsc hb
     go_wp2_with fail
     refine wp_region_quiet_grown mixed (by kernel_rfl) ?_
     repeat (go_big_quiet_step ((first | (go_at_call 40; exact f1.quiet) | (go_at_call 85; exact f2.quiet) | (go_at_fn g; exact f3 _ _))))
     refine wpQuiet_nil ?_
     rintro w' ⟨⟨nq, osq⟩, rfl⟩
     go_wp2_with fail
     go_meet
     case rel => exact ⟨_, rfl, rfl, by simp [Hid]; omega, gw⟩
   case rest =>
    obtain ⟨bb, rfl, rfl, HBB, hgw⟩ := hcut
    have lw : rowV 15 wc wr.heap.size 0 = some (pv b) := rowV_mono hgw (by go_simp) rfl
    have Lw := hiD lw
    have Ew := hiD ((hgw.b.block w.heap.size (by simp; omega)).trans (((World.grownBy_alloc wr _ none).block _ n8 (by simp)).trans HE.out))
    have Nw := hiD (((HN.out.gr ((Gr.refl wr).alloc _)).gr hgw))
    have Uw := hiD ((HU.out.gr ((Gr.refl wr).alloc _)).gr hgw)
    have sw : wr.heap.size < wc.heap.size := rowV_lt lw
    have HLTW := hiD HN.out.out.lt
    clear lw hgw HE HN HU lb
    go_upto_if 31 with fail
    go_cut [7, 16] from 17 to 57 (fun v7 i wx => ∃ (hs : List Value) (P1 : List (List PB)) (cur1 : List PB) (e1 : Rat) (g7 c7 : Nat), i = .int .i64 k ∧ v7 = .slice (some ⟨g7, 0, none⟩) (P1.length + 1) c7 ∧ Hid (NestH wx w2.heap.size v7 hs (P1 ++ [cur1])) ∧ Hid (wx.heap[w.heap.size]? = some (.cells #[.int .i64 e1.num, .int .i64 (e1.den : Int)] 64 (0, 0))) ∧
     Hid (vld e1 = true ∧ scan ac ap ys = P1 ++ scanGo ac ap (most e1 (OG.to ac b)) (cur1 ++ [b]) (ys.drop (k + 1)) ∧ P1.length ≤ k ∧ (∀ p ∈ P1, p.length ≤ k) ∧ cur1.length ≤ k) ∧ Hid (Upto w2 w.heap.size wx) ∧ Hid (rowV 15 wx wr.heap.size 0 = some (pv b)))
    case first =>
     cases bb
     ·
      have hno := HBB.out
      simp only [Bool.false_eq_true, false_iff, not_or] at hno
      rcases HS2.out with ⟨h0, _⟩ | ⟨h0, rfl, hsc, rfl, rfl, hve⟩
      ·exact absurd h0 hno.1
      have hap : ap (fr ac b - e) = false := by simpa using hno.2
      have hsc2 : scan ac ap ys = P0 ++ scanGo ac ap (most e (OG.to ac b)) (cur ++ [b]) (ys.drop (k + 1)) := by
       rw [hsc, List.drop_eq_getElem_cons (by rw [HYL.out]; exact hlt)]
       have : ys[k]'(by rw [HYL.out]; exact hlt) = b := by have := HB.out; rw [gE (by rw [HYL.out]; exact hlt)] at this; exact Option.some.inj this
       rw [this]
       simp only [scanGo, hap, Bool.false_eq_true, if_false]
      have hl1 := HST.out.len
      have hl2 := HST.out.lens
      simp only [List.length_append, List.length_cons, List.length_nil] at hl1
      have HSC2 := hiD hsc2
      rcases Nw.out.out.2 with ⟨_, h1⟩ | ⟨g7, c7, cs, rfl, _⟩
      ·simp at h1
      clear hsc hsc2 hno hap
      go_wp2_with fail
      go_meet
      case rel =>
       refine ⟨hs, P0, cur, e, g7, c7, rfl, by simp, by have := Nw.out; rw [List.length_append] at this; exact this, Ew.out, ⟨hve, HSC2.out, by omega, fun p hp => hl2 p (by simp [hp]), hl2 cur (by simp)⟩, Uw.out, Lw.out⟩
     ·
      have hyes := HBB.out.1 rfl
      have hsc2 : scan ac ap ys = parts ++ scanGo ac ap (most (OG.to ac b) (OG.to ac b)) ([] ++ [b]) (ys.drop (k + 1)) := by
       have hm : most (OG.to ac b) (OG.to ac b) = OG.to ac b := by unfold most; split <;> rfl
       have hbk : ys[k]'(by rw [HYL.out]; exact hlt) = b := by have := HB.out; rw [gE (by rw [HYL.out]; exact hlt)] at this; exact Option.some.inj this
       rw [hm, List.nil_append]
       rcases HS2.out with ⟨rfl, rfl⟩ | ⟨h0, rfl, hsc, rfl, rfl, hve⟩
       ·have : ys = b :: ys.drop 1 := by rw [← hbk]; exact List.drop_eq_getElem_cons (i := 0) (by rw [HYL.out]; exact hlt)
        rw [this]
        rfl
       ·rw [hsc, List.drop_eq_getElem_cons (by rw [HYL.out]; exact hlt), hbk]
        have hap : ap (fr ac b - e) = true := by rcases hyes with h | h; omega; exact h
        simp [scanGo, hap]
      have HSC2 := hiD hsc2
      have hto := to_call b ac (by have := HGB.out; simp [good] at this; simp [this]) (by have := HGB.out; simp [good] at this; simp [this]) (by have := HGB.out; simp [good] at this; simp [this]) (by have := HGB.out; simp [good] at this; simp [this])
      have HTO := hiD hto
      have hpl := HST.out.len
      clear hsc2 hyes hto
      obtain ⟨i25, hi, hz0, hz1, hz2⟩ := info_parts info25
      have hlt7 := Nw.out.out.lt
      have sz2 : w2.heap.size ≤ wc.heap.size := Uw.out.size
      have HLT7 := hiD hlt7
      clear hlt7
      go_wp2_with (at_builtin; refine wpList_app2 rfl _ _ 87 rfl w2.heap.size 25 i25 _ 1 24 Tryz.underlying87 hi hz0 hz1 hz2 rfl (by decide) _ _ _ rfl (Nw.out.out.alloc _) _ 1 1 [.slice none 0 0] rfl ?qc1 ?qc2 ?qc3 ?qc4 ?qc5 ?qc6 ?_)
      case qc3 => exact rfl
      case qc4 => unfold maxLen; omega
      case qc5 => omega
      case qc6 => omega
      intro v' w3 HO Hgrow Hdr Hloc
      have hgrow := Hgrow.out
      have hN3 : NestH w3 w2.heap.size v' (hs ++ [.slice none 0 0]) (parts ++ [[]]) := NestH.push (Nw.out.gr ((Gr.refl wc).alloc _)) HO.out hgrow (by simpa using Hloc.out)
      have hne1 : ∀ n, n < w2.heap.size ∨ n = wr.heap.size → some n ≠ u7.ownBlock := fun n hn e => by have := HLTW.out n e.symm; omega
      have l3 : rowV 15 w3 wr.heap.size 0 = some (pv b) := rowV_by (rowV_mono ((Gr.refl wc).alloc _) Lw.out rfl) hgrow (hne1 _ (.inr rfl))
      have e3 : w3.heap[w.heap.size]? = some (.cells #[.int .i64 en, .int .i64 ed] 64 (0, 0)) := (hgrow.block _ (by simp; omega) (hne1 _ (.inl s2))).trans (((World.grownBy_alloc wc _ none).block _ (by omega) (by simp)).trans Ew.out)
      have u3 : Upto w2 w.heap.size w3 := (Uw.out.gr ((Gr.refl wc).alloc _)).grown hgrow (fun j hj => (HLTW.out j hj).1) Hdr.out
      have n3 : wr.heap.size < w3.heap.size := rowV_lt l3
      have N3 := hiD hN3
      have L3 := hiD l3
      have E3 := hiD e3
      have U3 := hiD u3
      rcases HO.out.2 with ⟨_, h0⟩ | ⟨g7, c7, cs, rfl, _⟩
      ·simp at h0
      clear hgrow hN3 hne1 e3 u3
      go_wp2_with (go_at_call 86; refine (HTO.out _).mono ?_; rintro e w4 ⟨rfl, hg4⟩; have c40 : w4.cell? ⟨w.heap.size, 0, none⟩ = some (.int .i64 en) := hg4.cell (cell_of_row _ _ 0 _ 64 (0, 0) E3.out); have c41 : w4.cell? ⟨w.heap.size, 1, none⟩ = some (.int .i64 ed) := hg4.cell (cell_of_row _ _ 1 _ 64 (0, 0) E3.out); have f40 := frozen_of_row w4 w.heap.size 0 _ 64 ((hg4.b.block _ (by omega)).trans E3.out); have f41 := frozen_of_row w4 w.heap.size 1 _ 64 ((hg4.b.block _ (by omega)).trans E3.out))
      go_meet
      case rel =>
       have E4 := (hg4.b.block _ (by omega)).trans E3.out
       exact ⟨hs ++ [Value.slice none 0 0], parts, [], OG.to ac b, g7, c7, rfl, rfl, (N3.out.gr hg4).kept (set2_by w4 w.heap.size _ _) (fun j hj => by injection hj with hj; omega), set2 E4, ⟨good.to HGB.out ac, HSC2.out, hpl, HST.out.lens, by simp⟩,
        ((U3.out.gr hg4).setCell _ _ _ (.inl rfl)).setCell _ _ _ (.inl rfl), rowV_by (rowV_mono hg4 L3.out rfl) (set2_by w4 w.heap.size _ _) (by simp; omega)⟩
    case rest =>
     clear Lw Ew Nw Uw sw HBB HS2
     obtain ⟨hs, P1, cur1, e1, g7, c7, rfl, rfl, NX, EX, HX, UX, LX⟩ := hcut
     have nx : wr.heap.size < wc.heap.size := rowV_lt LX.out
     have lx : rowV 15 wc wr.heap.size 0 = some (pv b) := LX.out
     have hto := to_call b ac (by have := HGB.out; simp [good] at this; simp [this]) (by have := HGB.out; simp [good] at this; simp [this]) (by have := HGB.out; simp [good] at this; simp [this]) (by have := HGB.out; simp [good] at this; simp [this])
     have c0 : wc.cell? ⟨w.heap.size, 0, none⟩ = some (.int .i64 e1.num) := cell_of_row wc w.heap.size 0 _ 64 (0, 0) EX.out
     have c1 : wc.cell? ⟨w.heap.size, 1, none⟩ = some (.int .i64 (e1.den : Int)) := cell_of_row wc w.heap.size 1 _ 64 (0, 0) EX.out
     have n8c : w.heap.size < wc.heap.size := by omega
     have hve := HX.out.1
     have hvt := good.to HGB.out ac
     have hmost : Ans 87 #[fv e1, fv (OG.to ac b)] (fv (mostR e1 (OG.to ac b))) := by
      obtain ⟨a1, a2, a3⟩ := vld_bd hve
      obtain ⟨b1, b2, b3⟩ := vld_bd hvt
      obtain ⟨p1, p2⟩ := prod_bd (N := 2147483647) (D := 32768) a1 a2 b3
      obtain ⟨p3, p4⟩ := prod_bd (N := 2147483647) (D := 32768) b1 b2 a3
      exact most_call _ _ (by omega) (by omega) (by omega) (by omega)
     clear hve hvt
     go_wp2_with fail
     refine tail_grown 5 (by kernel_rfl) ?_
     simp only [List.take_succ_cons, List.take_zero, List.drop_succ_cons, List.drop_zero]
     repeat (go_big_quiet_step ((first | (go_at_call 86; exact hto.quiet) | (go_at_call 87; exact hmost.quiet))))
     refine wpQuiet_nil ?_
     rintro w' ⟨⟨nq, osq⟩, rfl⟩
     have hg5 := Gr.of_eq (w := wc) nq osq
     generalize Sort.grow (wc.drewN nq) osq = w5 at hg5 ⊢
     have E5 := (hg5.b.block _ n8c).trans EX.out
     have c50 := cell_of_row w5 w.heap.size 0 _ 64 (0, 0) E5
     have c51 := cell_of_row w5 w.heap.size 1 _ 64 (0, 0) E5
     have f50 := frozen_of_row w5 w.heap.size 0 _ 64 E5
     have f51 := frozen_of_row w5 w.heap.size 1 _ 64 E5
     have HE5 := hiD E5
     clear E5 c0 c1
     go_upto_region 10 with fail
     have hm : mostR e1 (OG.to ac b) = most e1 (OG.to ac b) := rfl
     have by5 := set2_by w5 w.heap.size (.int .i64 (mostR e1 (OG.to ac b)).num) (.int .i64 ((mostR e1 (OG.to ac b)).den : Int))
     have E7 := set2 (x := .int .i64 (mostR e1 (OG.to ac b)).num) (y := .int .i64 ((mostR e1 (OG.to ac b)).den : Int)) HE5.out
     have N7 : NestH _ w2.heap.size _ hs (P1 ++ [cur1]) := (NX.out.gr hg5).kept by5 (fun j hj => by injection hj with hj; omega)
     have U7 : Upto w2 w.heap.size ((w5.setCell ⟨w.heap.size, 0, none⟩ (.int .i64 (mostR e1 (OG.to ac b)).num)).setCell ⟨w.heap.size, 1, none⟩ (.int .i64 ((mostR e1 (OG.to ac b)).den : Int))) := ((UX.out.gr hg5).setCell _ _ _ (.inl rfl)).setCell _ _ _ (.inl rfl)
     have L7 := rowV_by (rowV_mono hg5 LX.out rfl) by5 (by simp; omega)
     generalize (w5.setCell ⟨w.heap.size, 0, none⟩ (.int .i64 (mostR e1 (OG.to ac b)).num)).setCell ⟨w.heap.size, 1, none⟩ (.int .i64 ((mostR e1 (OG.to ac b)).den : Int)) = w7 at E7 N7 U7 L7 ⊢
     clear by5 c50 c51 f50 f51 HE5 lx
     have oneB : cur1.length = cur1.length := rfl
     obtain ⟨h, hs0, hse, hs0l⟩ : ∃ h hs0, hs = hs0 ++ [h] ∧ hs0.length = P1.length := by
      have hl := N7.len
      simp only [List.length_append, List.length_cons, List.length_nil] at hl
      obtain ⟨m, x, e, hm⟩ := list_last hl
      exact ⟨x, m, e, hm⟩
     subst hse
     have nout : w7.ownsRow w2.heap.size 25 1 (.slice (some ⟨g7, 0, none⟩) (P1.length + 1) c7) (P1.length + 1) (hs0 ++ [h]) := by have := N7.out; rw [List.length_append] at this; exact this
     have hg7 := nout.lt g7 rfl
     have ch : w7.cell? ⟨g7, P1.length, none⟩ = some h := by
      have := nout.cells (g := g7) rfl P1.length h (by rw [← hs0l]; simp)
      rw [Addr.add_lit] at this
      simpa using this
     have fh := nout.frozenAt P1.length
     have hin := (N7.inn hs0.length h cur1 (by simp) (by rw [hs0l]; simp)).1
     have lw7 : wr.heap.size < w7.heap.size := rowV_lt L7
     have n8e : w.heap.size < w7.heap.size := (Array.getElem?_eq_some_iff.1 E7).1
     have hpl : P1.length ≤ k := HX.out.2.2.1
     have hcl : cur1.length ≤ k := HX.out.2.2.2.2
     have w8 : IntKind.i64.wrap ((P1.length : Int) + 1 - 1) = (P1.length : Int) := by rw [show (P1.length : Int) + 1 - 1 = (P1.length : Int) by omega]; exact IntWalk.i64_in _ ⟨by omega, by omega⟩
     have w9 : IntKind.i64.wrap ((P1.length : Int)) = (P1.length : Int) := IntWalk.i64_in _ ⟨by omega, by omega⟩
     have z1 : (P1.length : Int) < (P1.length : Int) + 1 := by omega
     have z3 : (0 : Int) ≤ (P1.length : Int) := by omega
     have t1 : ((P1.length : Nat) : Int).toNat = P1.length := by omega
     have N7' := hiD N7
     have E7' := hiD E7
     have U7' := hiD U7
     have L7' := hiD L7
     have HIN := hiD hin
     have CH := hiD ch
     clear N7 E7 U7 L7 nout hin oneB ch hs0l
     refine free_grown [0, 1, 2, 3, 4, 5, 6, 7, 8] [9, 10] [11] [12, 13, 14] (by kernel_rfl) (fun d _ _ _ _ h => by cases d <;> exact h) ?_
     simp only [List.filterMap_cons, List.filterMap_nil, List.getElem?_cons_succ, List.getElem?_cons_zero]
     repeat (refine wpPure_step (fun K hK => ?_); go_simp; refine hK _ ?_; clear hK K)
     refine wpPure_nil ?_
     refine wpTake_val rfl h (fun w' hg' => ?_) ?_
     ·have := hg'.cell CH.out
      go_simp
     refine wpTake_val rfl (pv b) (fun w' hg' => ?_) ?_
     ·have h1 := rowV_mono hg' L7'.out rfl
      have h2 := rowV_lt h1
      go_simp
     refine wpTake_nil ?_
     refine wpU_step rfl (fun K hK => ?_)
     go_simp
     refine hK.out _ _ (((Gr.refl w7).alloc _).drew) ?_
     refine wpU_nil ?_
     clear hK K
     obtain ⟨i0, hi, hz0, hz1, hz2⟩ := info_parts info66
     have sz7 : w2.heap.size ≤ w7.heap.size := U7'.out.size
     refine wpList_app2 rfl _ _ 25 rfl w2.heap.size 66 i0 _ 15 120 Tryz.underlying25 hi hz0 hz1 hz2 rfl (by decide) h cur1.length (rcells cur1) rfl ((HIN.out.alloc _).kept (Gr.by ((Gr.refl _).drew)) (by cases h.ownBlock <;> simp)) _ 1 1 (bcells (raw b)) rfl ?qd1 ?qd2 ?qd3 ?qd4 ?qd5 ?qd6 ?_
     case qd1 => rfl
     case qd2 =>
      intro j u hu
      rw [Addr.add_lit]
      have hj : j < 15 := (gO hu).1
      show World.cell? _ ⟨w7.heap.size, 0 + j, none⟩ = _
      rw [Nat.zero_add]
      exact (World.cell?_alloc_at _ _ _ _ rfl).trans (by simpa using hu)
     case qd3 => have := rcells_one [b]; simpa [rcells] using this
     case qd4 => unfold maxLen; omega
     case qd5 => omega
     case qd6 => simp; omega
     intro h' w9 HO Hgrow Hdr Hloc
     have hg8 : Gr w7 (w7.alloc (.cells (bcells (raw b)).toArray 66)).drew := (((Gr.refl w7).alloc _).drew)
     have N8 := N7'.out.gr hg8
     have e8 : rcells cur1 ++ bcells (raw b) = rcells (cur1 ++ [b]) := by simp [rcells]
     have ho : w9.ownsRow w2.heap.size 66 15 h' (cur1 ++ [b]).length (rcells (cur1 ++ [b])) := by have := HO.out; rw [e8] at this; rw [List.length_append]; exact this
     obtain ⟨gh, ch9, rfl⟩ : ∃ gh cp, h' = .slice (some ⟨gh, 0, none⟩) (cur1.length + 1) cp := by
      rcases HO.out.2 with ⟨_, h0⟩ | ⟨g, cap, cc, e, _⟩
      ·omega
      ·exact ⟨g, cap, e⟩
     have hloc : (Value.slice (some ⟨gh, 0, none⟩) (cur1.length + 1) ch9).ownBlock = h.ownBlock ∨ ∀ k, (Value.slice (some ⟨gh, 0, none⟩) (cur1.length + 1) ch9).ownBlock = some k → (w7.alloc (.cells (bcells (raw b)).toArray 66)).drew.heap.size ≤ k := by simpa using Hloc.out
     have N9 := NestH.last (by have := N8; exact this) ho Hgrow.out hloc rfl
     have hin2 := (N8.inn hs0.length h cur1 (by simp) (by rw [show hs0.length = P1.length by have := N8.len; simpa using this]; simp))
     have hout9 := N8.out.kept Hgrow.out (.inr (by rcases hin2.2 with e | e; (rw [e]; simp [Value.ownBlock]); exact Ne.symm e))
     have hout10 : w9.ownsRow w2.heap.size 25 1 (.slice (some ⟨g7, 0, none⟩) (P1.length + 1) c7) (P1.length + 1) (hs0 ++ [h]) := by rw [List.length_append] at hout9; exact hout9
     have ch : w9.cell? ⟨g7, P1.length, none⟩ = some h := by
      have := hout10.cells (g := g7) rfl P1.length h (by rw [show P1.length = hs0.length by have := N8.len; simp at this; omega]; simp)
      rw [Addr.add_lit] at this
      simpa using this
     have fh := hout10.frozenAt P1.length
     have hlt := hin2.1.lt
     have E9 : w9.heap[w.heap.size]? = _ := (Hgrow.out.block _ (Nat.lt_of_lt_of_le n8e hg8.b.size) (fun e => by have := hlt _ e.symm; omega)).trans ((hg8.b.block _ n8e).trans E7'.out)
     have E10 := (heap_setCell_other w9 ⟨g7, P1.length, none⟩ w.heap.size (.slice (some ⟨gh, 0, none⟩) (cur1.length + 1) ch9) (by show w.heap.size ≠ g7; omega)).trans E9
     have U10 := (((U7'.out.gr hg8).grown Hgrow.out (fun j hj => (hlt j hj).1) Hdr.out).setCell g7 P1.length (.slice (some ⟨gh, 0, none⟩) (cur1.length + 1) ch9) (.inr hg7.1))
     have N9' := hiD N9
     have E10' := hiD E10
     have U10' := hiD U10
     clear hg8 N8 e8 ho hloc N9 hin2 hout9 hout10 hlt E9 E10 U10 HO Hgrow Hdr Hloc
     go_wp2
     go_roundw
     case rel =>
      obtain ⟨hv1, hsc, hpl, hps, hcl⟩ := HX.out
      refine ⟨k + 1, P1 ++ [cur1 ++ [b]], hs0 ++ [Value.slice (some ⟨gh, 0, none⟩) (cur1.length + 1) ch9], _, _, by go_num, by omega, N9'.out, E10'.out, U10'.out, ?_, ?_, ?_⟩
      ·refine .inr ⟨by omega, P1, cur1 ++ [b], most e1 (OG.to ac b), rfl, hsc, rfl, rfl, ?_⟩
       have hvt := good.to HGB.out ac
       unfold most
       split
       ·exact hvt
       ·exact hv1
      ·simp; omega
      ·intro p hp
       rcases List.mem_append.1 hp with hp | hp
       ·have := hps p hp; omega
       ·obtain rfl := List.mem_singleton.1 hp
        simp; omega
     case measure => simp [intOf]; omega
  ·obtain rfl : k = len := by omega
   have hd : decide ((k : Int) < (k : Int)) = false := by simp
   obtain ⟨A2, c2, e2, hPR⟩ := HN.out.read2 (by have := HST.out.len; omega) (fun p hp => by have := HST.out.lens p hp; omega)
   subst e2
   have HPR := hiD hPR
   clear hPR
   go_wp2_with fail
   go_ret
   have hpe : parts = scan ac ap ys := by
    have hd : ys.drop k = [] := List.drop_eq_nil_of_le (by rw [HYL.out]; exact Nat.le_refl _)
    rcases HST.out.st with ⟨h0, rfl⟩ | ⟨h0, P0, cur, e, rfl, hsc, _⟩
    ·have : ys = [] := List.eq_nil_of_length_eq_zero (by rw [HYL.out]; exact h0)
     subst this
     rfl
    ·rw [hsc, hd]
     rfl
   refine ⟨HU.out.to_gr G2.out (Nat.le_refl _), A2, c2, ys, HP.out, srt_sorted HS.out, by rw [← hpe]; rfl, fun W2 h2 => by rw [← hpe]; exact HPR.out W2 (fun k h3 h4 => h2 k (by have := SW2.out; omega) h4)⟩
end Go.Proofs.OGW
