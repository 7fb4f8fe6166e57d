import Derived.Deep.CutBlock
import Derived.Test.YtmejcmollpbcfaaGreatP28
import Derived.Test.YtmejcmollpbcfaaGreatP29
set_option linter.all false
namespace Go.Proofs.OGW
open Go.RowKit Go.Sort OG Go.Shelf Go.PlainAid
attribute [local go_sem] sA fv sB sG sC Nat.zero_add neqN guard51
attribute [local go_sem ↓] ld66 ld51 st66 st51 eq51 ne51
structure But (b : Nat) (w w' : World) : Prop where
 os : w'.os = w.os
 tape : w'.tape = w.tape
 output : w'.output = w.output
 drawn : w.drawn ≤ w'.drawn
 size : w.heap.size ≤ w'.heap.size
 keep : ∀ k, k < w.heap.size → k ≠ b → w'.heap[k]? = w.heap[k]?
theorem But.of_gr {b : Nat} {w w' : World} (h : Gr w w') : But b w w' := ⟨h.b.os, h.b.tape, h.b.output, h.d, h.b.size, fun k hk _ => h.b.block k hk⟩
theorem But.store {b : Nat} {w w' : World} (h : But b w w') (k : Nat) (v : Value) : But b w (w'.setCell ⟨b, k, none⟩ v) :=
 ⟨(setCell_rest w' _ v).1.trans h.os, (setCell_rest w' _ v).2.1.trans h.tape, (setCell_rest w' _ v).2.2.1.trans h.output, by rw [(setCell_rest w' _ v).2.2.2]; exact h.drawn, by rw [setCell_size]; exact h.size,
   fun n hn hne => (setCell_other w' b k n v hne).trans (h.keep n hn hne)⟩
theorem But.cell {b : Nat} {w w' : World} (h : But b w w') {n i : Nat} {v : Value} (hne : n ≠ b) (hc : w.cell? ⟨n, i, none⟩ = some v) : w'.cell? ⟨n, i, none⟩ = some v :=
 (World.cell?_of_block (h.keep n (lcc w _ hc) hne)).trans hc
theorem But.gr {b : Nat} {w0 w w' : World} (h : But b w w') (hg : Gr w0 w) (hb : w0.heap.size ≤ b) : Gr w0 w' :=
 ⟨⟨h.os.trans hg.b.os, h.tape.trans hg.b.tape, h.output.trans hg.b.output, Nat.le_trans hg.b.size h.size, fun k hk => (h.keep k (Nat.lt_of_lt_of_le hk hg.b.size) (by omega)).trans (hg.b.block k hk)⟩, Nat.le_trans hg.d h.drawn⟩
theorem set_row {w : World} {b k : Nat} {cs : Array Value} {t : TypeId} {f : Nat × Nat} (h : w.heap[b]? = some (.cells cs t f)) (v : Value) : (w.setCell ⟨b, k, none⟩ v).heap[b]? = some (.cells (cs.setIfInBounds k v) t f) := by
 simp [World.setCell, Array.getElem?_modify, h]
theorem tZ19 {P : Prop} (h : P := by
 go_wp2_with fail
 go_ret
 exact ⟨rfl, HGC.out.trans gw⟩) : P := h
theorem tZ89 {P : Prop} (h : P := by
 clear hlf
 go_wp2_with (go_at_call 148; refine (HLF.out.at _).mono ?_; rintro e w' ⟨rfl, q, os, rfl⟩)
 go_meet
 case rel => exact ⟨by rw [HT2.out], gw⟩) : P := h
theorem tZ113 {P : Prop} (h : P := by
 rw [hb] at hz
 simp only [hz] at hr
 simp at hr
 subst hr
 clear HR2 hz
 simp only [planW]
 go_wp2_with fail
 go_ret
 exact ⟨rfl, HBT.out⟩) : P := h
set_option maxRecDepth 100000 in
set_option maxHeartbeats 8000000 in
theorem first_call (most : Int) (SA : Option Addr) (sn sc : Nat) (A : Option Addr) (len c : Nat) (l : List Sg) (ns : List Nd) (i : Nat) (n : Nd) (w : World) (hE : LayEnv w most SA sn sc A len c l ns) (hn : ns[i]? = some n)
 (hprev : ∀ k p, i = k + 1 → ns[k]? = some p → 0 ≤ p.depth ∧ p.depth ≤ 4) :
 Calls Tryz.prog 102 #[lv most SA sn sc, .agg #[.slice A len c], .int .i64 (i : Nat)] w fun e w' => e = .returned (.int .i64 (nodeE l (topN ns i) n)) ∧ Gr w w' := by
 have hi := (gO hn).1
 rw [hE.nl] at hi
 have hlen := hE.nb
 obtain ⟨blk, off, rfl, hat⟩ := hE.nd.2 _ _ hn
 have hblk : blk < w.heap.size := lcc w _ hat.c0
 simp only [NdAt] at hat
 obtain ⟨⟨kd, sg, tn, mr, st, mn1, mx1⟩, dp⟩ := n
 obtain ⟨top, htop⟩ : ∃ top, top = topN ns i := ⟨_, rfl⟩
 rw [← htop]
 obtain ⟨res, hres⟩ : ∃ res, res = nodeE l top ⟨⟨kd, sg, tn, mr, st, mn1, mx1⟩, dp⟩ := ⟨_, rfl⟩
 rw [← hres]
 have HRES := hiD hres
 have HTOP := hiD htop
 have HE := hiD hE
 have HN := hiD hn
 have HPV := hiD hprev
 have ti : ((i : Nat) : Int).toNat = i := by omega
 have HAT := hiD hat
 clear hE hn hprev hres htop
 by_cases hk : kd < 1 ∨ 7 < kd
 ·have hr : res = 20 := by rw [HRES.out]; unfold nodeE; exact if_pos hk
  subst hr
  go_enter Tryz.func102, Tryz.ntmps102
  rcases hk with hk | hk
  ·have d1 : decide (kd < 1) = true := by simp [hk]
   go_wp2_with fail
   exact tZ15
  ·have d1 : decide (kd < 1) = false := by simp; omega
   have d2 : decide (7 < kd) = true := by simp [hk]
   exact tZ43
 have d1 : decide (kd < 1) = false := by simp; omega
 have d2 : decide (7 < kd) = false := by simp; omega
 have HK := hiD hk
 clear hk
 go_enter Tryz.func102, Tryz.ntmps102
 go_upto_if 24 with fail
 have p0 : (((w.alloc (.cells #[.int .i64 most, .slice SA sn sc] 24)).alloc (.cells #[.slice (some ⟨blk, off, none⟩) len c] 33)).alloc (.cells #[.int .i64 kd, .int .i64 dp, .int .i64 sg, .int .i64 tn, .bool mr, .int .i64 st, .int .i64 mn1, .int .i64 mx1] 51)).cell? ⟨w.heap.size, 0, none⟩ = some (.int .i64 most) := by go_simp
 have p1 : (((w.alloc (.cells #[.int .i64 most, .slice SA sn sc] 24)).alloc (.cells #[.slice (some ⟨blk, off, none⟩) len c] 33)).alloc (.cells #[.int .i64 kd, .int .i64 dp, .int .i64 sg, .int .i64 tn, .bool mr, .int .i64 st, .int .i64 mn1, .int .i64 mx1] 51)).cell? ⟨w.heap.size, 1, none⟩ = some (.slice SA sn sc) := by go_simp
 have p2 : (((w.alloc (.cells #[.int .i64 most, .slice SA sn sc] 24)).alloc (.cells #[.slice (some ⟨blk, off, none⟩) len c] 33)).alloc (.cells #[.int .i64 kd, .int .i64 dp, .int .i64 sg, .int .i64 tn, .bool mr, .int .i64 st, .int .i64 mn1, .int .i64 mx1] 51)).cell? ⟨w.heap.size + 1, 0, none⟩ = some (.slice (some ⟨blk, off, none⟩) len c) := by go_simp
 have p3 : rowV 8 (((w.alloc (.cells #[.int .i64 most, .slice SA sn sc] 24)).alloc (.cells #[.slice (some ⟨blk, off, none⟩) len c] 33)).alloc (.cells #[.int .i64 kd, .int .i64 dp, .int .i64 sg, .int .i64 tn, .bool mr, .int .i64 st, .int .i64 mn1, .int .i64 mx1] 51)) (w.heap.size + 2) 0 = some (.agg #[.int .i64 kd, .int .i64 dp, .int .i64 sg, .int .i64 tn, .bool mr, .int .i64 st, .int .i64 mn1, .int .i64 mx1]) := by go_simp
 have g3 : Gr w (((w.alloc (.cells #[.int .i64 most, .slice SA sn sc] 24)).alloc (.cells #[.slice (some ⟨blk, off, none⟩) len c] 33)).alloc (.cells #[.int .i64 kd, .int .i64 dp, .int .i64 sg, .int .i64 tn, .bool mr, .int .i64 st, .int .i64 mn1, .int .i64 mx1] 51)) := gw
 have HB3 := hiD (show w.heap.size ≤ w.heap.size + 2 by omega)
 simp only [Nat.add_assoc, Nat.reduceAdd]
 generalize ((w.alloc (.cells #[.int .i64 most, .slice SA sn sc] 24)).alloc (.cells #[.slice (some ⟨blk, off, none⟩) len c] 33)).alloc (.cells #[.int .i64 kd, .int .i64 dp, .int .i64 sg, .int .i64 tn, .bool mr, .int .i64 st, .int .i64 mn1, .int .i64 mx1] 51) = w3 at p0 p1 p2 p3 g3 ⊢
 obtain ⟨b0, hb0⟩ : ∃ b, b = w.heap.size := ⟨_, rfl⟩
 obtain ⟨b1, hb1⟩ : ∃ b, b = w.heap.size + 1 := ⟨_, rfl⟩
 obtain ⟨b7, hb7⟩ : ∃ b, b = w.heap.size + 2 := ⟨_, rfl⟩
 rw [← hb7] at p3 HB3 ⊢
 rw [← hb1] at p2 ⊢
 rw [← hb0] at p0 p1
 rw [← hb0]
 have hb0w : w.heap.size ≤ b0 := by omega
 clear hb0 hb1 hb7
 have HE3 := hiD (HE.out.gr g3)
 have HG3 := hiD g3
 have HP := hiD (And.intro p0 (And.intro p1 (And.intro p2 p3)))
 clear HE g3 hat hblk
 go_cut [8] from 25 to 41 (fun s8 wr => s8 = .int .i64 top ∧ Gr w3 wr)
 case first =>
  rcases i with _ | k
  ·have e0 : top = 0 := by rw [HTOP.out]; rfl
   clear p0 p1 p2 p3
   go_wp2_with fail
   go_meet
   case rel => exact ⟨by rw [e0], Gr.refl _⟩
  ·have hk : k < ns.length := by have := HE3.out.nl; omega
   obtain ⟨p, hp⟩ : ∃ p, ns[k]? = some p := ⟨_, gE hk⟩
   obtain ⟨blk2, off2, e2, hatp⟩ := HE3.out.nd.2 k p hp
   obtain ⟨rfl, rfl⟩ : blk = blk2 ∧ off = off2 := by simpa using e2
   have hatp0 := hatp.c1
   simp only [NdAt] at hatp
   have kl : k < len := by omega
   have tk : ((k : Nat) : Int).toNat = k := by omega
   have ek : ((k + 1 : Nat) : Int) = (k : Int) + 1 := by omega
   have HLF := hiD (isLeaf_call p)
   have hpd := HPV.out k p rfl hp
   rw [ek]
   have hblk3 : blk < w3.heap.size := lcc w3 _ hatp0
   have n1 := lcc w3 _ p2
   have HTP := hiD (show top = if leafB p then p.depth else p.depth + 1 by rw [HTOP.out]; simp [topN, hp])
   clear e2 hp hk p0 p1 p3 ti
   cases hlf : leafB p
   ·have HT2 := hiD (show top = p.depth + 1 by rw [HTP.out, hlf]; rfl)
    rw [hlf] at HLF
    exact tZ89
   ·have HT2 := hiD (show top = p.depth by rw [HTP.out, hlf]; rfl)
    rw [hlf] at HLF
    exact tZ89
 case rest =>
 obtain ⟨rfl, hgc⟩ := hcut
 have c3 := rowV_mono hgc HP.out.2.2.2 rfl
 have c0 := hgc.cell HP.out.1
 have c1 := hgc.cell HP.out.2.1
 have n7 := lcc wc _ (rowV_cell c3 0 _ rfl)
 have n0 := lcc wc _ c0
 have HEC := hiD (HE3.out.gr hgc)
 have HGC := hiD (HG3.out.trans hgc)
 have HC3 := hiD c3
 have m0 := rowV_cell c3 0 _ rfl
 have m1 := rowV_cell c3 1 _ rfl
 have m2 := rowV_cell c3 2 _ rfl
 have m3 := rowV_cell c3 3 _ rfl
 have m4 := rowV_cell c3 4 _ rfl
 have m5 := rowV_cell c3 5 _ rfl
 have m6 := rowV_cell c3 6 _ rfl
 have m7 := rowV_cell c3 7 _ rfl
 simp only [Nat.zero_add] at m0 m1 m2 m3 m4 m5 m6 m7
 clear c3
 clear p0 p1 p2 p3 hgc HP HE3 HG3 HAT ti HPV HTOP HN
 by_cases hd : dp < 0 ∨ 4 < dp ∨ top < dp
 ·have hr : res = 21 := by rw [HRES.out]; unfold nodeE; rw [if_neg HK.out]; exact if_pos hd
  subst hr
  by_cases e1 : dp < 0
  ·have d3 : decide (dp < 0) = true := by simp [e1]
   go_wp2_with fail
   go_ret
   exact ⟨rfl, HGC.out.trans gw⟩
  ·have d3 : decide (dp < 0) = false := by simp; omega
   by_cases e2 : 4 < dp
   ·have d4 : decide (4 < dp) = true := by simp [e2]
    go_wp2_with fail
    go_ret
    exact ⟨rfl, HGC.out.trans gw⟩
   ·have d4 : decide (4 < dp) = false := by simp; omega
    have d5 : decide (top < dp) = true := by simp; omega
    exact tZ19
 have d3 : decide (dp < 0) = false := by simp; omega
 have d4 : decide (4 < dp) = false := by simp; omega
 have d5 : decide (top < dp) = false := by simp; omega
 have hre : res = if kd = 1 then
  if sg < 0 then 23 else match l[sg.toNat]? with
   | none => 23
   | some s => if tn < 0 ∨ 3 < tn ∨ st < 0 ∨ 3 < st ∨ (mr = true ∧ s.flag = true) then 20
      else if mn1 ≠ 0 ∨ mx1 ≠ 0 then 20 else 0
 else if kd = 6 then if mn1 < 0 ∨ mx1 < mn1 ∨ 9 < mx1 ∨ mx1 < 1 then 22 else if sg ≠ 0 ∨ tn ≠ 0 ∨ mr = true ∨ st ≠ 0 then 20 else 0
 else if sg = 0 ∧ tn = 0 ∧ mr = false ∧ st = 0 ∧ mn1 = 0 ∧ mx1 = 0 then 0 else 20 := by
  rw [HRES.out]; unfold nodeE; rw [if_neg HK.out]; exact if_neg hd
 clear hd
 by_cases k1 : kd = 1
 ·rw [if_pos k1] at hre
  have kb : (kd == 1) = true := by simp [k1]
  have HK1 := hiD k1
  by_cases s0 : sg < 0
  ·have hr : res = 23 := by rw [hre]; exact if_pos s0
   subst hr
   have f1 : decide (sg < 0) = true := by simp [s0]
   clear hre k1
   exact tZ19
  have f1 : decide (sg < 0) = false := by simp; omega
  rw [if_neg s0] at hre
  cases hl : l[sg.toNat]? with
  | none =>
    have hr : res = 23 := by rw [hre, hl]
    subst hr
    have hls := List.getElem?_eq_none_iff.1 hl
    have hsl := HEC.out.sl
    have f2 : decide ((sn : Int) ≤ sg) = true := by simp; omega
    clear hre k1 hl hls hsl
    exact tZ19
  | some s =>
    rw [hl] at hre
    simp only at hre
    obtain ⟨sb, so, rfl, hsat⟩ := HEC.out.sg.2 _ s hl
    have hsi := (gO hl).1
    rw [HEC.out.sl] at hsi
    have f2 : decide ((sn : Int) ≤ sg) = false := by simp; omega
    obtain ⟨sk, hsk⟩ := Int.eq_ofNat_of_zero_le (show 0 ≤ sg by omega)
    rw [hsk, Int.toNat_natCast] at hsat hsi
    have sc3 := hsat.c3
    have hsblk := lcc wc _ sc3
    have tsk : sg.toNat = sk := by omega
    have tsl : sk < sn := hsi
    have tsl2 : sg < (sn : Int) := by omega
    have hsb := HEC.out.sb
    obtain ⟨sfl, hsfl⟩ : ∃ b, b = s.flag := ⟨_, rfl⟩
    rw [← hsfl] at hre sc3
    have HRE := hiD hre
    have s1 : 0 ≤ sg := by omega
    clear hsk hsat hre k1 hl hsfl s0
    have bad : (tn < 0 ∨ 3 < tn ∨ st < 0 ∨ 3 < st ∨ (mr = true ∧ sfl = true)) → res = 20 := fun h => by rw [HRE.out]; exact if_pos h
    by_cases t1 : tn < 0
    ·obtain rfl := bad (.inl t1)
     have g1 : decide (tn < 0) = true := by simp [t1]
     clear bad
     exact tZ19
    have g1 : decide (tn < 0) = false := by simp; omega
    by_cases t2 : 3 < tn
    ·obtain rfl := bad (.inr (.inl t2))
     have g2 : decide (3 < tn) = true := by simp [t2]
     clear bad
     exact tZ19
    have g2 : decide (3 < tn) = false := by simp; omega
    by_cases t3 : st < 0
    ·obtain rfl := bad (.inr (.inr (.inl t3)))
     have g3 : decide (st < 0) = true := by simp [t3]
     clear bad
     exact tZ19
    have g3 : decide (st < 0) = false := by simp; omega
    by_cases t4 : 3 < st
    ·obtain rfl := bad (.inr (.inr (.inr (.inl t4))))
     have g4 : decide (3 < st) = true := by simp [t4]
     clear bad
     exact tZ19
    have g4 : decide (3 < st) = false := by simp; omega
    by_cases t5 : mr = true ∧ sfl = true
    ·obtain rfl := bad (.inr (.inr (.inr (.inr t5))))
     obtain ⟨rfl, rfl⟩ := t5
     clear bad
     exact tZ19
    have hr2 : res = if mn1 ≠ 0 ∨ mx1 ≠ 0 then 20 else 0 := by rw [HRE.out]; exact if_neg (fun h => by rcases h with h | h | h | h | h; exact t1 h; exact t2 h; exact t3 h; exact t4 h; exact t5 h)
    have hmf : mr = false ∨ sfl = false := by cases mr <;> cases sfl <;> simp at t5 ⊢
    have HR2 := hiD hr2
    clear bad HRE hr2 t1 t2 t3 t4 t5
    cases mr
    ·clear hmf
     go_upto_region 18 with fail
     have hx := heap_alloc_new wc (.cells #[.int .i64 kd, .int .i64 dp, .int .i64 0, .int .i64 0, .bool false, .int .i64 0, .int .i64 0, .int .i64 0] 51)
     have r7 := rowV_mono ((Gr.refl wc).alloc (.cells #[.int .i64 kd, .int .i64 dp, .int .i64 0, .int .i64 0, .bool false, .int .i64 0, .int .i64 0, .int .i64 0] 51)) HC3.out rfl
     have ga : Gr w (wc.alloc (.cells #[.int .i64 kd, .int .i64 dp, .int .i64 0, .int .i64 0, .bool false, .int .i64 0, .int .i64 0, .int .i64 0] 51)) := HGC.out.trans ((Gr.refl wc).alloc _)
     have hw9 : w.heap.size ≤ wc.heap.size := HGC.out.b.size
     have h79 : b7 ≠ wc.heap.size := by have : b7 < wc.heap.size := n7; omega
     generalize wc.alloc (.cells #[.int .i64 kd, .int .i64 dp, .int .i64 0, .int .i64 0, .bool false, .int .i64 0, .int .i64 0, .int .i64 0] 51) = wd at hx r7 ga ⊢
     generalize wc.heap.size = b9 at hx hw9 h79 ⊢
     have N2 : wd.cell? ⟨b7, 2, none⟩ = some (.int .i64 sg) := by have := rowV_cell r7 2 _ rfl; rwa [Nat.zero_add] at this
     have N3 : wd.cell? ⟨b7, 3, none⟩ = some (.int .i64 tn) := by have := rowV_cell r7 3 _ rfl; rwa [Nat.zero_add] at this
     have N4 : wd.cell? ⟨b7, 4, none⟩ = some (.bool false) := by have := rowV_cell r7 4 _ rfl; rwa [Nat.zero_add] at this
     have N5 : wd.cell? ⟨b7, 5, none⟩ = some (.int .i64 st) := by have := rowV_cell r7 5 _ rfl; rwa [Nat.zero_add] at this
     have HX := hiD hx
     have HR7 := hiD r7
     have HGA := hiD ga
     have HNN := hiD (And.intro N2  (And.intro N3 (And.intro N4 N5)))
     clear hx r7 ga N2 N3 N4 N5
     refine region_plan (.pure 0 (.pure 2 (.pure 4 (.pure 6 (.take 1 (.take 3 (.take 5 (.take 7 (.one 8 (.one 9 (.one 10 (.one 11 (.one 12 (.one 13 (.one 14 (.one 15 (.done))))))))))))))))) (But b9 wd) [1, 3, 5, 7, 8, 9, 10, 11, 12, 13] _ mixed (by kernel_rfl) (fun d _ _ _ _ h => by cases d <;> exact h) (fun _ _ h => h) ?_
     repeat (refine planW_pure_step rfl rfl (fun K hK => ?_); go_simp; refine hK _ ?_; clear hK K)
     refine planW_take rfl rfl (But.of_gr ((Gr.refl wd).drewN 1)) (.int .i64 sg) (fun w' hg' => ?_) ?_
     ·have := hg'.cell h79 HNN.out.1
      go_simp
     refine planW_take rfl rfl (But.of_gr ((Gr.refl wd).drewN 1)) (.int .i64 tn) (fun w' hg' => ?_) ?_
     ·have := hg'.cell h79 HNN.out.2.1
      go_simp
     refine planW_take rfl rfl (But.of_gr ((Gr.refl wd).drewN 1)) (.bool false) (fun w' hg' => ?_) ?_
     ·have := hg'.cell h79 HNN.out.2.2.1
      go_simp
     refine planW_take rfl rfl (But.of_gr ((Gr.refl wd).drewN 1)) (.int .i64 st) (fun w' hg' => ?_) ?_
     ·have := hg'.cell h79 HNN.out.2.2.2
      go_simp
     have hbt : But b9 wd (wd.drewN 1) := But.of_gr ((Gr.refl wd).drewN 1)
     have hx : (wd.drewN 1).heap[b9]? = some (.cells #[.int .i64 kd, .int .i64 dp, .int .i64 0, .int .i64 0, .bool false, .int .i64 0, .int .i64 0, .int .i64 0] 51 (0, 0)) := HX.out
     change planW _ _ _ _ _ _ _ _ (wd.drewN 1)
     generalize wd.drewN 1 = wx at hbt hx ⊢
     have HBT := hiD hbt
     have cc := cell_of_row wx b9 2 _ _ _ hx
     have ff := frozen_of_row wx b9 2 _ _ hx
     simp only [List.getElem?_toArray, List.getElem?_cons_zero, List.getElem?_cons_succ] at cc
     have nb9 := lcc wx _ cc
     have HXX := hiD hx
     clear hx hbt
     refine planW_one rfl rfl (fun K hK => ?_)
     go_simp
     refine hK.out _ _ (fun _ => HBT.out) ?_
     clear hK K
     refine planW_one rfl rfl (fun K hK => ?_)
     go_simp
     have hbt := HBT.out.store 2 (.int .i64 sg)
     have hx : (wx.setCell ⟨b9, 2, none⟩ (.int .i64 sg)).heap[b9]? = some (.cells #[.int .i64 kd, .int .i64 dp, .int .i64 sg, .int .i64 0, .bool false, .int .i64 0, .int .i64 0, .int .i64 0] 51 (0, 0)) := set_row HXX.out _
     refine hK.out _ _ (fun _ => hbt) ?_
     clear hK K HXX cc ff HBT nb9
     generalize wx.setCell ⟨b9, 2, none⟩ (.int .i64 sg) = wy at hbt hx ⊢
     clear wx
     obtain ⟨wx, hwx⟩ : ∃ wx, wx = wy := ⟨wy, rfl⟩
     subst hwx
     have HBT := hiD hbt
     have cc := cell_of_row wx b9 3 _ _ _ hx
     have ff := frozen_of_row wx b9 3 _ _ hx
     simp only [List.getElem?_toArray, List.getElem?_cons_zero, List.getElem?_cons_succ] at cc
     have nb9 := lcc wx _ cc
     have HXX := hiD hx
     clear hx hbt
     refine planW_one rfl rfl (fun K hK => ?_)
     go_simp
     refine hK.out _ _ (fun _ => HBT.out) ?_
     clear hK K
     refine planW_one rfl rfl (fun K hK => ?_)
     go_simp
     have hbt := HBT.out.store 3 (.int .i64 tn)
     have hx : (wx.setCell ⟨b9, 3, none⟩ (.int .i64 tn)).heap[b9]? = some (.cells #[.int .i64 kd, .int .i64 dp, .int .i64 sg, .int .i64 tn, .bool false, .int .i64 0, .int .i64 0, .int .i64 0] 51 (0, 0)) := set_row HXX.out _
     refine hK.out _ _ (fun _ => hbt) ?_
     clear hK K HXX cc ff HBT nb9
     generalize wx.setCell ⟨b9, 3, none⟩ (.int .i64 tn) = wy at hbt hx ⊢
     clear wx
     obtain ⟨wx, hwx⟩ : ∃ wx, wx = wy := ⟨wy, rfl⟩
     subst hwx
     have HBT := hiD hbt
     have cc := cell_of_row wx b9 4 _ _ _ hx
     have ff := frozen_of_row wx b9 4 _ _ hx
     simp only [List.getElem?_toArray, List.getElem?_cons_zero, List.getElem?_cons_succ] at cc
     have nb9 := lcc wx _ cc
     have HXX := hiD hx
     clear hx hbt
     refine planW_one rfl rfl (fun K hK => ?_)
     go_simp
     refine hK.out _ _ (fun _ => HBT.out) ?_
     clear hK K
     refine planW_one rfl rfl (fun K hK => ?_)
     go_simp
     have hbt := HBT.out.store 4 (.bool false)
     have hx : (wx.setCell ⟨b9, 4, none⟩ (.bool false)).heap[b9]? = some (.cells #[.int .i64 kd, .int .i64 dp, .int .i64 sg, .int .i64 tn, .bool false, .int .i64 0, .int .i64 0, .int .i64 0] 51 (0, 0)) := set_row HXX.out _
     refine hK.out _ _ (fun _ => hbt) ?_
     clear hK K HXX cc ff HBT nb9
     generalize wx.setCell ⟨b9, 4, none⟩ (.bool false) = wy at hbt hx ⊢
     clear wx
     obtain ⟨wx, hwx⟩ : ∃ wx, wx = wy := ⟨wy, rfl⟩
     subst hwx
     have HBT := hiD hbt
     have cc := cell_of_row wx b9 5 _ _ _ hx
     have ff := frozen_of_row wx b9 5 _ _ hx
     simp only [List.getElem?_toArray, List.getElem?_cons_zero, List.getElem?_cons_succ] at cc
     have nb9 := lcc wx _ cc
     have HXX := hiD hx
     clear hx hbt
     refine planW_one rfl rfl (fun K hK => ?_)
     go_simp
     refine hK.out _ _ (fun _ => HBT.out) ?_
     clear hK K
     refine planW_one rfl rfl (fun K hK => ?_)
     go_simp
     have hbt := HBT.out.store 5 (.int .i64 st)
     have hx : (wx.setCell ⟨b9, 5, none⟩ (.int .i64 st)).heap[b9]? = some (.cells #[.int .i64 kd, .int .i64 dp, .int .i64 sg, .int .i64 tn, .bool false, .int .i64 st, .int .i64 0, .int .i64 0] 51 (0, 0)) := set_row HXX.out _
     refine hK.out _ _ (fun _ => hbt) ?_
     clear hK K HXX cc ff HBT nb9
     generalize wx.setCell ⟨b9, 5, none⟩ (.int .i64 st) = wy at hbt hx ⊢
     clear wx
     obtain ⟨wx, hwx⟩ : ∃ wx, wx = wy := ⟨wy, rfl⟩
     subst hwx
     have r9 : rowV 8 wx b9 0 = some (.agg #[.int .i64 kd, .int .i64 dp, .int .i64 sg, .int .i64 tn, .bool false, .int .i64 st, .int .i64 0, .int .i64 0]) := rowV_of rfl fun jj u hu => by rw [Nat.zero_add, cell_of_row wx b9 jj _ _ _ hx]; simpa using hu
     have r7 : rowV 8 wx b7 0 = some (.agg #[.int .i64 kd, .int .i64 dp, .int .i64 sg, .int .i64 tn, .bool false, .int .i64 st, .int .i64 mn1, .int .i64 mx1]) := rowV_of rfl fun jj u hu => by rw [Nat.zero_add]; exact hbt.cell h79 (by have := rowV_cell HR7.out jj u hu; rwa [Nat.zero_add] at this)
     have nb9 := (Array.getElem?_eq_some_iff.1 hx).1
     have nb7 := lcc wx _ (rowV_cell r7 0 _ rfl)
     have HBT := hiD (hbt.gr HGA.out hw9)
     clear hx hbt HX HR7 HGA HNN
     cases hb : nodeNe kd dp sg tn false st mn1 mx1 kd dp sg tn false st 0 0
     all_goals
      have hr := HR2.out
      have hz : (mn1 ≠ 0 ∨ mx1 ≠ 0) ↔ nodeNe kd dp sg tn false st mn1 mx1 kd dp sg tn false st 0 0 = true := by unfold nodeNe; simp; try omega
      exact tZ113
    ·obtain rfl : sfl = false := by simpa using hmf
     clear hmf
     go_upto_region 18 with fail
     have hx := heap_alloc_new wc (.cells #[.int .i64 kd, .int .i64 dp, .int .i64 0, .int .i64 0, .bool false, .int .i64 0, .int .i64 0, .int .i64 0] 51)
     have r7 := rowV_mono ((Gr.refl wc).alloc (.cells #[.int .i64 kd, .int .i64 dp, .int .i64 0, .int .i64 0, .bool false, .int .i64 0, .int .i64 0, .int .i64 0] 51)) HC3.out rfl
     have ga : Gr w (wc.alloc (.cells #[.int .i64 kd, .int .i64 dp, .int .i64 0, .int .i64 0, .bool false, .int .i64 0, .int .i64 0, .int .i64 0] 51)) := HGC.out.trans ((Gr.refl wc).alloc _)
     have hw9 : w.heap.size ≤ wc.heap.size := HGC.out.b.size
     have h79 : b7 ≠ wc.heap.size := by have : b7 < wc.heap.size := n7; omega
     generalize wc.alloc (.cells #[.int .i64 kd, .int .i64 dp, .int .i64 0, .int .i64 0, .bool false, .int .i64 0, .int .i64 0, .int .i64 0] 51) = wd at hx r7 ga ⊢
     generalize wc.heap.size = b9 at hx hw9 h79 ⊢
     have N2 : wd.cell? ⟨b7, 2, none⟩ = some (.int .i64 sg) := by have := rowV_cell r7 2 _ rfl; rwa [Nat.zero_add] at this
     have N3 : wd.cell? ⟨b7, 3, none⟩ = some (.int .i64 tn) := by have := rowV_cell r7 3 _ rfl; rwa [Nat.zero_add] at this
     have N4 : wd.cell? ⟨b7, 4, none⟩ = some (.bool true) := by have := rowV_cell r7 4 _ rfl; rwa [Nat.zero_add] at this
     have N5 : wd.cell? ⟨b7, 5, none⟩ = some (.int .i64 st) := by have := rowV_cell r7 5 _ rfl; rwa [Nat.zero_add] at this
     have HX := hiD hx
     have HR7 := hiD r7
     have HGA := hiD ga
     have HNN := hiD (And.intro N2  (And.intro N3 (And.intro N4 N5)))
     clear hx r7 ga N2 N3 N4 N5
     refine region_plan (.pure 0 (.pure 2 (.pure 4 (.pure 6 (.take 1 (.take 3 (.take 5 (.take 7 (.one 8 (.one 9 (.one 10 (.one 11 (.one 12 (.one 13 (.one 14 (.one 15 (.done))))))))))))))))) (But b9 wd) [1, 3, 5, 7, 8, 9, 10, 11, 12, 13] _ mixed (by kernel_rfl) (fun d _ _ _ _ h => by cases d <;> exact h) (fun _ _ h => h) ?_
     repeat (refine planW_pure_step rfl rfl (fun K hK => ?_); go_simp; refine hK _ ?_; clear hK K)
     refine planW_take rfl rfl (But.of_gr ((Gr.refl wd).drewN 1)) (.int .i64 sg) (fun w' hg' => ?_) ?_
     ·have := hg'.cell h79 HNN.out.1
      go_simp
     refine planW_take rfl rfl (But.of_gr ((Gr.refl wd).drewN 1)) (.int .i64 tn) (fun w' hg' => ?_) ?_
     ·have := hg'.cell h79 HNN.out.2.1
      go_simp
     refine planW_take rfl rfl (But.of_gr ((Gr.refl wd).drewN 1)) (.bool true) (fun w' hg' => ?_) ?_
     ·have := hg'.cell h79 HNN.out.2.2.1
      go_simp
     refine planW_take rfl rfl (But.of_gr ((Gr.refl wd).drewN 1)) (.int .i64 st) (fun w' hg' => ?_) ?_
     ·have := hg'.cell h79 HNN.out.2.2.2
      go_simp
     have hbt : But b9 wd (wd.drewN 1) := But.of_gr ((Gr.refl wd).drewN 1)
     have hx : (wd.drewN 1).heap[b9]? = some (.cells #[.int .i64 kd, .int .i64 dp, .int .i64 0, .int .i64 0, .bool false, .int .i64 0, .int .i64 0, .int .i64 0] 51 (0, 0)) := HX.out
     change planW _ _ _ _ _ _ _ _ (wd.drewN 1)
     generalize wd.drewN 1 = wx at hbt hx ⊢
     have HBT := hiD hbt
     have cc := cell_of_row wx b9 2 _ _ _ hx
     have ff := frozen_of_row wx b9 2 _ _ hx
     simp only [List.getElem?_toArray, List.getElem?_cons_zero, List.getElem?_cons_succ] at cc
     have nb9 := lcc wx _ cc
     have HXX := hiD hx
     clear hx hbt
     refine planW_one rfl rfl (fun K hK => ?_)
     go_simp
     refine hK.out _ _ (fun _ => HBT.out) ?_
     clear hK K
     refine planW_one rfl rfl (fun K hK => ?_)
     go_simp
     have hbt := HBT.out.store 2 (.int .i64 sg)
     have hx : (wx.setCell ⟨b9, 2, none⟩ (.int .i64 sg)).heap[b9]? = some (.cells #[.int .i64 kd, .int .i64 dp, .int .i64 sg, .int .i64 0, .bool false, .int .i64 0, .int .i64 0, .int .i64 0] 51 (0, 0)) := set_row HXX.out _
     refine hK.out _ _ (fun _ => hbt) ?_
     clear hK K HXX cc ff HBT nb9
     generalize wx.setCell ⟨b9, 2, none⟩ (.int .i64 sg) = wy at hbt hx ⊢
     clear wx
     obtain ⟨wx, hwx⟩ : ∃ wx, wx = wy := ⟨wy, rfl⟩
     subst hwx
     have HBT := hiD hbt
     have cc := cell_of_row wx b9 3 _ _ _ hx
     have ff := frozen_of_row wx b9 3 _ _ hx
     simp only [List.getElem?_toArray, List.getElem?_cons_zero, List.getElem?_cons_succ] at cc
     have nb9 := lcc wx _ cc
     have HXX := hiD hx
     clear hx hbt
     refine planW_one rfl rfl (fun K hK => ?_)
     go_simp
     refine hK.out _ _ (fun _ => HBT.out) ?_
     clear hK K
     refine planW_one rfl rfl (fun K hK => ?_)
     go_simp
     have hbt := HBT.out.store 3 (.int .i64 tn)
     have hx : (wx.setCell ⟨b9, 3, none⟩ (.int .i64 tn)).heap[b9]? = some (.cells #[.int .i64 kd, .int .i64 dp, .int .i64 sg, .int .i64 tn, .bool false, .int .i64 0, .int .i64 0, .int .i64 0] 51 (0, 0)) := set_row HXX.out _
     refine hK.out _ _ (fun _ => hbt) ?_
     clear hK K HXX cc ff HBT nb9
     generalize wx.setCell ⟨b9, 3, none⟩ (.int .i64 tn) = wy at hbt hx ⊢
     clear wx
     obtain ⟨wx, hwx⟩ : ∃ wx, wx = wy := ⟨wy, rfl⟩
     subst hwx
     have HBT := hiD hbt
     have cc := cell_of_row wx b9 4 _ _ _ hx
     have ff := frozen_of_row wx b9 4 _ _ hx
     simp only [List.getElem?_toArray, List.getElem?_cons_zero, List.getElem?_cons_succ] at cc
     have nb9 := lcc wx _ cc
     have HXX := hiD hx
     clear hx hbt
     refine planW_one rfl rfl (fun K hK => ?_)
     go_simp
     refine hK.out _ _ (fun _ => HBT.out) ?_
     clear hK K
     refine planW_one rfl rfl (fun K hK => ?_)
     go_simp
     have hbt := HBT.out.store 4 (.bool true)
     have hx : (wx.setCell ⟨b9, 4, none⟩ (.bool true)).heap[b9]? = some (.cells #[.int .i64 kd, .int .i64 dp, .int .i64 sg, .int .i64 tn, .bool true, .int .i64 0, .int .i64 0, .int .i64 0] 51 (0, 0)) := set_row HXX.out _
     refine hK.out _ _ (fun _ => hbt) ?_
     clear hK K HXX cc ff HBT nb9
     generalize wx.setCell ⟨b9, 4, none⟩ (.bool true) = wy at hbt hx ⊢
     clear wx
     obtain ⟨wx, hwx⟩ : ∃ wx, wx = wy := ⟨wy, rfl⟩
     subst hwx
     have HBT := hiD hbt
     have cc := cell_of_row wx b9 5 _ _ _ hx
     have ff := frozen_of_row wx b9 5 _ _ hx
     simp only [List.getElem?_toArray, List.getElem?_cons_zero, List.getElem?_cons_succ] at cc
     have nb9 := lcc wx _ cc
     have HXX := hiD hx
     clear hx hbt
     refine planW_one rfl rfl (fun K hK => ?_)
     go_simp
     refine hK.out _ _ (fun _ => HBT.out) ?_
     clear hK K
     refine planW_one rfl rfl (fun K hK => ?_)
     go_simp
     have hbt := HBT.out.store 5 (.int .i64 st)
     have hx : (wx.setCell ⟨b9, 5, none⟩ (.int .i64 st)).heap[b9]? = some (.cells #[.int .i64 kd, .int .i64 dp, .int .i64 sg, .int .i64 tn, .bool true, .int .i64 st, .int .i64 0, .int .i64 0] 51 (0, 0)) := set_row HXX.out _
     refine hK.out _ _ (fun _ => hbt) ?_
     clear hK K HXX cc ff HBT nb9
     generalize wx.setCell ⟨b9, 5, none⟩ (.int .i64 st) = wy at hbt hx ⊢
     clear wx
     obtain ⟨wx, hwx⟩ : ∃ wx, wx = wy := ⟨wy, rfl⟩
     subst hwx
     have r9 : rowV 8 wx b9 0 = some (.agg #[.int .i64 kd, .int .i64 dp, .int .i64 sg, .int .i64 tn, .bool true, .int .i64 st, .int .i64 0, .int .i64 0]) := rowV_of rfl fun jj u hu => by rw [Nat.zero_add, cell_of_row wx b9 jj _ _ _ hx]; simpa using hu
     have r7 : rowV 8 wx b7 0 = some (.agg #[.int .i64 kd, .int .i64 dp, .int .i64 sg, .int .i64 tn, .bool true, .int .i64 st, .int .i64 mn1, .int .i64 mx1]) := rowV_of rfl fun jj u hu => by rw [Nat.zero_add]; exact hbt.cell h79 (by have := rowV_cell HR7.out jj u hu; rwa [Nat.zero_add] at this)
     have nb9 := (Array.getElem?_eq_some_iff.1 hx).1
     have nb7 := lcc wx _ (rowV_cell r7 0 _ rfl)
     have HBT := hiD (hbt.gr HGA.out hw9)
     clear hx hbt HX HR7 HGA HNN
     cases hb : nodeNe kd dp sg tn true st mn1 mx1 kd dp sg tn true st 0 0
     all_goals
      have hr := HR2.out
      have hz : (mn1 ≠ 0 ∨ mx1 ≠ 0) ↔ nodeNe kd dp sg tn true st mn1 mx1 kd dp sg tn true st 0 0 = true := by unfold nodeNe; simp; try omega
      exact tZ113
 rw [if_neg k1] at hre
 have kb : (kd == 1) = false := by simp [k1]
 by_cases k6 : kd = 6
 ·rw [if_pos k6] at hre
  have kg : (kd == 6) = true := by simp [k6]
  have HRE := hiD hre
  clear hre k1 k6
  have bad : (mn1 < 0 ∨ mx1 < mn1 ∨ 9 < mx1 ∨ mx1 < 1) → res = 22 := fun h => by rw [HRE.out]; exact if_pos h
  by_cases t1 : mn1 < 0
  ·obtain rfl := bad (.inl t1)
   have g1 : decide (mn1 < 0) = true := by simp [t1]
   clear bad
   exact tZ19
  have g1 : decide (mn1 < 0) = false := by simp; omega
  by_cases t2 : mx1 < mn1
  ·obtain rfl := bad (.inr (.inl t2))
   have g2 : decide (mx1 < mn1) = true := by simp [t2]
   clear bad
   exact tZ19
  have g2 : decide (mx1 < mn1) = false := by simp; omega
  by_cases t3 : 9 < mx1
  ·obtain rfl := bad (.inr (.inr (.inl t3)))
   have g3 : decide (9 < mx1) = true := by simp [t3]
   clear bad
   exact tZ19
  have g3 : decide (9 < mx1) = false := by simp; omega
  by_cases t4 : mx1 < 1
  ·obtain rfl := bad (.inr (.inr (.inr t4)))
   have g4 : decide (mx1 < 1) = true := by simp [t4]
   clear bad
   exact tZ19
  have g4 : decide (mx1 < 1) = false := by simp; omega
  have hr2 : res = if sg ≠ 0 ∨ tn ≠ 0 ∨ mr = true ∨ st ≠ 0 then 20 else 0 := by rw [HRE.out]; exact if_neg (by omega)
  have hne : (if nodeNe kd dp sg tn mr st mn1 mx1 kd dp 0 0 false 0 mn1 mx1 = true then (20 : Int) else 0) = res := by
   rw [hr2]; unfold nodeNe
   by_cases h : sg ≠ 0 ∨ tn ≠ 0 ∨ mr = true ∨ st ≠ 0
   ·rw [if_pos h, if_pos]
    simp only [Bool.not_eq_true', decide_eq_false_iff_not, Nd.mk.injEq, Lf.mk.injEq]
    rintro ⟨⟨_, rfl, rfl, rfl, rfl, _⟩, _⟩
    simp at h
   ·rw [if_neg h, if_neg]
    simp only [ne_eq, not_or, Decidable.not_not, Bool.not_eq_true] at h
    obtain ⟨rfl, rfl, rfl, rfl⟩ := h
    simp
  have HNE := hiD hne
  clear bad HRE hr2 t1 t2 t3 t4 hne
  go_upto_region 22 with fail
  have hx := heap_alloc_new wc (.cells #[.int .i64 kd, .int .i64 dp, .int .i64 0, .int .i64 0, .bool false, .int .i64 0, .int .i64 0, .int .i64 0] 51)
  have r7 := rowV_mono ((Gr.refl wc).alloc (.cells #[.int .i64 kd, .int .i64 dp, .int .i64 0, .int .i64 0, .bool false, .int .i64 0, .int .i64 0, .int .i64 0] 51)) HC3.out rfl
  have ga : Gr w (wc.alloc (.cells #[.int .i64 kd, .int .i64 dp, .int .i64 0, .int .i64 0, .bool false, .int .i64 0, .int .i64 0, .int .i64 0] 51)) := HGC.out.trans ((Gr.refl wc).alloc _)
  have hw9 : w.heap.size ≤ wc.heap.size := HGC.out.b.size
  have h79 : b7 ≠ wc.heap.size := by have : b7 < wc.heap.size := n7; omega
  generalize wc.alloc (.cells #[.int .i64 kd, .int .i64 dp, .int .i64 0, .int .i64 0, .bool false, .int .i64 0, .int .i64 0, .int .i64 0] 51) = wd at hx r7 ga ⊢
  generalize wc.heap.size = b9 at hx hw9 h79 ⊢
  have N6 : wd.cell? ⟨b7, 6, none⟩ = some (.int .i64 mn1) := by have := rowV_cell r7 6 _ rfl; rwa [Nat.zero_add] at this
  have N7 : wd.cell? ⟨b7, 7, none⟩ = some (.int .i64 mx1) := by have := rowV_cell r7 7 _ rfl; rwa [Nat.zero_add] at this
  have HX := hiD hx
  have HR7 := hiD r7
  have HGA := hiD ga
  have HNN := hiD (And.intro N6  (And.intro N7 h79))
  clear hx r7 ga N6 N7
  refine region_plan (.pure 0 (.pure 2 (.take 1 (.take 3 (.one 4 (.one 5 (.one 6 (.one 7 (.done))))))))) (But b9 wd) [1, 3, 4, 5] _ mixed (by kernel_rfl) (fun d _ _ _ _ h => by cases d <;> exact h) (fun _ _ h => h) ?_
  repeat (refine planW_pure_step rfl rfl (fun K hK => ?_); go_simp; refine hK _ ?_; clear hK K)
  refine planW_take rfl rfl (But.of_gr ((Gr.refl wd).drewN 1)) (.int .i64 mn1) (fun w' hg' => ?_) ?_
  ·have := hg'.cell h79 HNN.out.1
   go_simp
  refine planW_take rfl rfl (But.of_gr ((Gr.refl wd).drewN 1)) (.int .i64 mx1) (fun w' hg' => ?_) ?_
  ·have := hg'.cell h79 HNN.out.2.1
   go_simp
  have hbt : But b9 wd (wd.drewN 1) := But.of_gr ((Gr.refl wd).drewN 1)
  have hx : (wd.drewN 1).heap[b9]? = some (.cells #[.int .i64 kd, .int .i64 dp, .int .i64 0, .int .i64 0, .bool false, .int .i64 0, .int .i64 0, .int .i64 0] 51 (0, 0)) := HX.out
  change planW _ _ _ _ _ _ _ _ (wd.drewN 1)
  generalize wd.drewN 1 = wx at hbt hx ⊢
  have HBT := hiD hbt
  have cc := cell_of_row wx b9 6 _ _ _ hx
  have ff := frozen_of_row wx b9 6 _ _ hx
  simp only [List.getElem?_toArray, List.getElem?_cons_zero, List.getElem?_cons_succ] at cc
  have nb9 := lcc wx _ cc
  have HXX := hiD hx
  clear hx hbt
  refine planW_one rfl rfl (fun K hK => ?_)
  go_simp
  refine hK.out _ _ (fun _ => HBT.out) ?_
  clear hK K
  refine planW_one rfl rfl (fun K hK => ?_)
  go_simp
  have hbt := HBT.out.store 6 (.int .i64 mn1)
  have hx : (wx.setCell ⟨b9, 6, none⟩ (.int .i64 mn1)).heap[b9]? = some (.cells #[.int .i64 kd, .int .i64 dp, .int .i64 0, .int .i64 0, .bool false, .int .i64 0, .int .i64 mn1, .int .i64 0] 51 (0, 0)) := set_row HXX.out _
  refine hK.out _ _ (fun _ => hbt) ?_
  clear hK K HXX cc ff HBT nb9
  generalize wx.setCell ⟨b9, 6, none⟩ (.int .i64 mn1) = wy at hbt hx ⊢
  clear wx
  obtain ⟨wx, hwx⟩ : ∃ wx, wx = wy := ⟨wy, rfl⟩
  subst hwx
  have HBT := hiD hbt
  have cc := cell_of_row wx b9 7 _ _ _ hx
  have ff := frozen_of_row wx b9 7 _ _ hx
  simp only [List.getElem?_toArray, List.getElem?_cons_zero, List.getElem?_cons_succ] at cc
  have nb9 := lcc wx _ cc
  have HXX := hiD hx
  clear hx hbt
  refine planW_one rfl rfl (fun K hK => ?_)
  go_simp
  refine hK.out _ _ (fun _ => HBT.out) ?_
  clear hK K
  refine planW_one rfl rfl (fun K hK => ?_)
  go_simp
  have hbt := HBT.out.store 7 (.int .i64 mx1)
  have hx : (wx.setCell ⟨b9, 7, none⟩ (.int .i64 mx1)).heap[b9]? = some (.cells #[.int .i64 kd, .int .i64 dp, .int .i64 0, .int .i64 0, .bool false, .int .i64 0, .int .i64 mn1, .int .i64 mx1] 51 (0, 0)) := set_row HXX.out _
  refine hK.out _ _ (fun _ => hbt) ?_
  clear hK K HXX cc ff HBT nb9
  generalize wx.setCell ⟨b9, 7, none⟩ (.int .i64 mx1) = wy at hbt hx ⊢
  clear wx
  obtain ⟨wx, hwx⟩ : ∃ wx, wx = wy := ⟨wy, rfl⟩
  subst hwx
  have r9 : rowV 8 wx b9 0 = some (.agg #[.int .i64 kd, .int .i64 dp, .int .i64 0, .int .i64 0, .bool false, .int .i64 0, .int .i64 mn1, .int .i64 mx1]) := rowV_of rfl fun jj u hu => by rw [Nat.zero_add, cell_of_row wx b9 jj _ _ _ hx]; simpa using hu
  have r7 : rowV 8 wx b7 0 = some (.agg #[.int .i64 kd, .int .i64 dp, .int .i64 sg, .int .i64 tn, .bool mr, .int .i64 st, .int .i64 mn1, .int .i64 mx1]) := rowV_of rfl fun jj u hu => by rw [Nat.zero_add]; exact hbt.cell h79 (by have := rowV_cell HR7.out jj u hu; rwa [Nat.zero_add] at this)
  have nb9 := (Array.getElem?_eq_some_iff.1 hx).1
  have nb7 := lcc wx _ (rowV_cell r7 0 _ rfl)
  have HBT := hiD (hbt.gr HGA.out hw9)
  clear hx hbt HX HR7 HGA HNN
  cases hb : nodeNe kd dp sg tn mr st mn1 mx1 kd dp 0 0 false 0 mn1 mx1
  all_goals
   have hr := HNE.out
   rw [hb] at hr
   simp at hr
   subst hr
   clear HNE
   simp only [planW]
   go_wp2_with fail
   go_ret
   exact ⟨rfl, HBT.out⟩
 ·rw [if_neg k6] at hre
  have kg : (kd == 6) = false := by simp [k6]
  have hne : (if nodeNe kd dp sg tn mr st mn1 mx1 kd dp 0 0 false 0 0 0 = true then (20 : Int) else 0) = res := by
   rw [hre]; unfold nodeNe
   by_cases h : sg = 0 ∧ tn = 0 ∧ mr = false ∧ st = 0 ∧ mn1 = 0 ∧ mx1 = 0
   ·rw [if_pos h, if_neg]
    obtain ⟨rfl, rfl, rfl, rfl, rfl, rfl⟩ := h
    simp
   ·rw [if_neg h, if_pos]
    simp only [Bool.not_eq_true', decide_eq_false_iff_not, Nd.mk.injEq, Lf.mk.injEq]
    rintro ⟨⟨_, rfl, rfl, rfl, rfl, rfl, rfl⟩, _⟩
    simp at h
  have HNE := hiD hne
  clear hre k1 k6 hne
  have c3 := HC3.out
  cases hb : nodeNe kd dp sg tn mr st mn1 mx1 kd dp 0 0 false 0 0 0
  all_goals
   have hr := HNE.out
   rw [hb] at hr
   simp at hr
   subst hr
   clear HNE
   exact tZ19
end Go.Proofs.OGW
