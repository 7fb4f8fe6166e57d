import Derived.ProofKit
import Derived.SizedLaws
import Derived.Test.YtmejcmollpbcfaaGreatRows
import Derived.Test.YtmejcmollpbcfaaGreatP33
set_option linter.all false
namespace Go.Proofs.OGW
open Go.RowKit Go.Sort OG Go.Shelf
attribute [local go_sem] sA fv sB sG sC Nat.zero_add
attribute [local go_sem ↓] ld66 ld51 st66 st51
theorem wpList_sgs {w : World} {ops : Array Oper} {rest : List Oper} {o : Oper} {a : Act} {Q : Exit → Act → World → Prop} (hgd : o.guard = none) (s x : Operand)
 (ho : o.op = .call { callee := .builtin .append, args := #[s, x], argTypes := #[22, 22] }) (B : Nat) (v : Value) (ls : List Sg) (hs : List Value) (hsv : a.eval s = v) (hown : SgsH w B v ls hs)
 (g c : Nat) (t : Sg) (h : Value) (hx : a.eval x = .slice (some ⟨g, 0, none⟩) 1 c) (hq : ∀ (j : Nat) (u : Value), (sgl t h)[j]? = some u → w.cell? ⟨g, j, none⟩ = some u) (h1 : h.oneCell' = true) (hb : ls.length ≤ 1000000) (hbase : B ≤ w.heap.size)
 (hv : ∃ A c, h = .slice A t.vals.length c ∧ t.vals.length ≤ c ∧ ∀ W2 : World, (∀ k, B ≤ k → k < w.heap.size → some k ≠ v.ownBlock → W2.heap[k]? = w.heap[k]?) → ValRow W2 A t.vals)
 (hk : ∀ v' w', Hid (SgsH w' B v' (ls ++ [t]) (hs ++ [h])) → Hid (RowStep w w' v v') → wpList Tryz.prog ops Q rest (a.put o.dst v') w') : wpList Tryz.prog ops Q (o :: rest) a w := by
 obtain ⟨i0, hi, hz0, hz1, hz2⟩ := info_parts info77
 refine wpList_app2 hgd s x 22 ho B 77 i0 _ 5 64 Tryz.underlying22 hi hz0 hz1 hz2 rfl (by decide) v ls.length (sgc ls hs) hsv hown.out ⟨g, 0, none⟩ 1 c (sgl t h) hx rfl ?_ ?_ (by unfold maxLen; omega) (by omega) hbase ?_
 ·intro j u hu
  rw [Addr.add_lit, Nat.zero_add]
  exact hq j u hu
 ·intro u hu
  simp only [sgl, List.mem_cons, List.not_mem_nil, or_false] at hu
  rcases hu with rfl | rfl | rfl | rfl | rfl
  ·rfl
  ·rfl
  ·rfl
  ·rfl
  ·exact h1
 ·intro v' w' HO Hg Hd Hl
  exact hk v' w' (hown.push t h ⟨Hg.out, Hd.out, Hl.out⟩ HO.out hv) ⟨Hg.out, Hd.out, Hl.out⟩
theorem own_madeV (w : World) (x : Obj) : OwnV ((w.alloc x).alloc (.cells #[] 136)) (w.heap.size + 1) (.slice (some ⟨w.heap.size + 1, 0, none⟩) 0 0) [] := by
 have h := World.ownsRow_made (w.alloc x) (e := 136) (size := 4) #[] 0 (Nat.le_refl _) (Nat.zero_le _) rfl
 have e : (w.alloc x).heap.size = w.heap.size + 1 := by simp
 rw [e] at h
 exact h
theorem ownV_lower {w : World} {B B' : Nat} {v : Value} {xs : List Val} (h : OwnV w B v xs) (hB : B' ≤ B) : OwnV w B' v xs :=
 ⟨h.1, h.2.imp id fun ⟨g, cap, cur, e, hb, rest⟩ => ⟨g, cap, cur, e, Nat.le_trans hB hb, rest⟩⟩
theorem tZ108 {P : Prop} (h : P := by
 obtain ⟨A8, c8, e8, _, r8⟩ := OwnV.row h8 (by rw [← HVN.out]; omega)
 rw [e9] at e8
 injection e8 with e81 e82 e83
 rw [e81]; exact r8) : P := h
set_option maxRecDepth 100000 in
set_option maxHeartbeats 8000000 in
theorem copyList_call (most : Int) (A : Option Addr) (len c : Nat) (l : List Sg) (w : World) (hr : SgRow w A l) (hl : l.length = len) (hlen : len ≤ 1000) (hvl : ∀ s ∈ l, s.vals.length ≤ 1000) :
 Calls Tryz.prog 12 #[lv most A len c] w fun e w' => ∃ A' c', e = .returned (lv most A' len c') ∧ (∀ W2 : World, (∀ k, w.heap.size ≤ k → k < w'.heap.size → W2.heap[k]? = w'.heap[k]?) → SgRow W2 A' l) ∧ Gr w w' := by
 have HR := hiD hr
 have HL := hiD hl
 have HVL := hiD hvl
 clear hr hl hvl
 go_enter Tryz.func12, Tryz.ntmps12
 go_upto_region 3 with fail
 simp only [Nat.add_assoc, Nat.reduceAdd]
 have m1 : (((w.alloc (.cells #[.int .i64 most, .slice A len c] 24)).alloc (.cells #[.int .i64 0, .slice none 0 0] 24)).alloc (.cells #[.int .i64 most, .slice none 0 0] 24)).cell? ⟨w.heap.size, 1, none⟩ = some (.slice A len c) := by go_simp
 have r0 : (((w.alloc (.cells #[.int .i64 most, .slice A len c] 24)).alloc (.cells #[.int .i64 0, .slice none 0 0] 24)).alloc (.cells #[.int .i64 most, .slice none 0 0] 24)).cell? ⟨w.heap.size + 1, 0, none⟩ = some (.int .i64 0) := by go_simp
 have r1 : (((w.alloc (.cells #[.int .i64 most, .slice A len c] 24)).alloc (.cells #[.int .i64 0, .slice none 0 0] 24)).alloc (.cells #[.int .i64 most, .slice none 0 0] 24)).cell? ⟨w.heap.size + 1, 1, none⟩ = some (.slice none 0 0) := by go_simp
 have hbx : (((w.alloc (.cells #[.int .i64 most, .slice A len c] 24)).alloc (.cells #[.int .i64 0, .slice none 0 0] 24)).alloc (.cells #[.int .i64 most, .slice none 0 0] 24)).heap[w.heap.size + 2]? = some (.cells #[.int .i64 most, .slice none 0 0] 24 (0, 0)) := by
  have := heap_alloc_new ((w.alloc (.cells #[.int .i64 most, .slice A len c] 24)).alloc (.cells #[.int .i64 0, .slice none 0 0] 24)) (.cells #[.int .i64 most, .slice none 0 0] 24)
  simpa using this
 have fz0 : (((w.alloc (.cells #[.int .i64 most, .slice A len c] 24)).alloc (.cells #[.int .i64 0, .slice none 0 0] 24)).alloc (.cells #[.int .i64 most, .slice none 0 0] 24)).frozen? ⟨w.heap.size + 1, 0, none⟩ = false := by go_simp
 have fz1 : (((w.alloc (.cells #[.int .i64 most, .slice A len c] 24)).alloc (.cells #[.int .i64 0, .slice none 0 0] 24)).alloc (.cells #[.int .i64 most, .slice none 0 0] 24)).frozen? ⟨w.heap.size + 1, 1, none⟩ = false := by go_simp
 have hsz : (((w.alloc (.cells #[.int .i64 most, .slice A len c] 24)).alloc (.cells #[.int .i64 0, .slice none 0 0] 24)).alloc (.cells #[.int .i64 most, .slice none 0 0] 24)).heap.size = w.heap.size + 3 := by simp
 have g1 : Gr w (((w.alloc (.cells #[.int .i64 most, .slice A len c] 24)).alloc (.cells #[.int .i64 0, .slice none 0 0] 24)).alloc (.cells #[.int .i64 most, .slice none 0 0] 24)) := gw
 generalize ((w.alloc (.cells #[.int .i64 most, .slice A len c] 24)).alloc (.cells #[.int .i64 0, .slice none 0 0] 24)).alloc (.cells #[.int .i64 most, .slice none 0 0] 24) = W1 at m1 r0 r1 fz0 fz1 hbx hsz g1 ⊢
 have M1 := hiD m1
 have R0 := hiD r0
 have R1 := hiD r1
 have G1 := hiD g1
 have HBX := hiD hbx
 have FZ0 := hiD fz0
 have FZ1 := hiD fz1
 clear m1 r0 r1 fz0 fz1 hbx g1
 go_loopw [4] (fun x wr => ∃ (q : Nat) (v : Value) (hs : List Value), x = .int .i64 (q : Int) ∧ q ≤ len ∧ Hid (Upto W1 (w.heap.size + 2) wr) ∧ Hid (wr.heap[w.heap.size + 2]? = some (.cells #[.int .i64 most, v] 24 (0, 0))) ∧ Hid (SgsH wr W1.heap.size v (l.take q) hs)) (fun x _ => len - (intOf x).toNat)
 case atStart => exact ⟨0, _, [], rfl, Nat.zero_le _, Upto.refl _ _, HBX.out, SgsH.nil _ _⟩
 case round =>
  obtain ⟨q, v, hs, rfl, hq, HU, HB, HS⟩ := hrel
  have c1 := HU.out.cell (by omega) M1.out
  have n1 := lcc wr _ c1
  by_cases hlt : q < len
  ·have d1 : decide ((q : Int) < (len : Int)) = true := by simp; omega
   have tq : ((q : Nat) : Int).toNat = q := by omega
   obtain ⟨s, hs2⟩ : ∃ s, l[q]? = some s := ⟨_, gE (by rw [HL.out]; exact hlt)⟩
   have hrw : SgRow wr A l := SgRow.below HR.out (HU.out.below2 G1.out.b (by omega))
   obtain ⟨blk, off, rfl, hat⟩ := hrw.2 q s hs2
   have s0 := hat.c0
   have s1 := hat.c1
   have s2 := hat.c2
   have s3 := hat.c3
   obtain ⟨VA, vc, s4, hvc, hvr⟩ := hat.c4
   have nb := lcc wr _ s0
   have HVR := hiD hvr
   obtain ⟨vn, hvn⟩ : ∃ vn, vn = s.vals.length := ⟨_, rfl⟩
   rw [← hvn] at s4
   have HVN := hiD hvn
   have HS2 := hiD hs2
   have hvn1 : vn ≤ 1000 := by rw [hvn]; exact HVL.out s (List.mem_of_getElem? hs2)
   clear hs2 hrw hat hvc hvr hvn
   by_cases hve : s.vals = []
   ·obtain rfl : vn = 0 := by rw [HVN.out, hve]; rfl
    cases VA
    all_goals
     go_upto_region 7 with fail
     have x0 : ((wr.alloc (.cells #[.string s.code, .int .i64 s.wide, .int .i64 s.high, .bool s.flag, .slice (some ⟨wr.heap.size + 1, 0, none⟩) 0 0] 77)).alloc (.cells #[] 136)).cell? ⟨wr.heap.size, 0, none⟩ = some (.string s.code) := by go_simp
     have x1 : ((wr.alloc (.cells #[.string s.code, .int .i64 s.wide, .int .i64 s.high, .bool s.flag, .slice (some ⟨wr.heap.size + 1, 0, none⟩) 0 0] 77)).alloc (.cells #[] 136)).cell? ⟨wr.heap.size, 1, none⟩ = some (.int .i64 s.wide) := by go_simp
     have x2 : ((wr.alloc (.cells #[.string s.code, .int .i64 s.wide, .int .i64 s.high, .bool s.flag, .slice (some ⟨wr.heap.size + 1, 0, none⟩) 0 0] 77)).alloc (.cells #[] 136)).cell? ⟨wr.heap.size, 2, none⟩ = some (.int .i64 s.high) := by go_simp
     have x3 : ((wr.alloc (.cells #[.string s.code, .int .i64 s.wide, .int .i64 s.high, .bool s.flag, .slice (some ⟨wr.heap.size + 1, 0, none⟩) 0 0] 77)).alloc (.cells #[] 136)).cell? ⟨wr.heap.size, 3, none⟩ = some (.bool s.flag) := by go_simp
     have x4 : ((wr.alloc (.cells #[.string s.code, .int .i64 s.wide, .int .i64 s.high, .bool s.flag, .slice (some ⟨wr.heap.size + 1, 0, none⟩) 0 0] 77)).alloc (.cells #[] 136)).cell? ⟨wr.heap.size, 4, none⟩ = some (.slice (some ⟨wr.heap.size + 1, 0, none⟩) 0 0) := by go_simp
     have gg6 : Gr wr ((wr.alloc (.cells #[.string s.code, .int .i64 s.wide, .int .i64 s.high, .bool s.flag, .slice (some ⟨wr.heap.size + 1, 0, none⟩) 0 0] 77)).alloc (.cells #[] 136)) := gw
     have hov : OwnV ((wr.alloc (.cells #[.string s.code, .int .i64 s.wide, .int .i64 s.high, .bool s.flag, .slice (some ⟨wr.heap.size + 1, 0, none⟩) 0 0] 77)).alloc (.cells #[] 136)) wr.heap.size (.slice (some ⟨wr.heap.size + 1, 0, none⟩) 0 0) s.vals := by rw [hve]; exact ownV_lower (own_madeV wr _) (by omega)
     have hg6 : Gr wr ((wr.alloc (.cells #[.string s.code, .int .i64 s.wide, .int .i64 s.high, .bool s.flag, .slice (some ⟨wr.heap.size + 1, 0, none⟩) 0 0] 77)).alloc (.cells #[] 136)) := gg6
     generalize (wr.alloc (.cells #[.string s.code, .int .i64 s.wide, .int .i64 s.high, .bool s.flag, .slice (some ⟨wr.heap.size + 1, 0, none⟩) 0 0] 77)).alloc (.cells #[] 136) = w6 at x0 x1 x2 x3 x4 hg6 hov ⊢
     clear gg6
     obtain ⟨nb5, hnb5⟩ : ∃ nb5, nb5 = wr.heap.size := ⟨_, rfl⟩
     rw [← hnb5] at x0 x1 x2 x3 x4 hov ⊢
     have HNB := hiD hnb5
     have p5 := lcc w6 _ x0
     have HOV := hiD hov
     have hb6 : w6.heap[w.heap.size + 2]? = some (.cells #[.int .i64 most, v] 24 (0, 0)) := (hg6.b.block _ (Array.getElem?_eq_some_iff.1 HB.out).1).trans HB.out
     have y1 := cell_of_row w6 (w.heap.size + 2) 1 _ 24 (0, 0) hb6
     simp only [List.getElem?_toArray, List.getElem?_cons_zero, List.getElem?_cons_succ] at y1
     have p6 := lcc w6 _ y1
     have HB6 := hiD hb6
     have HS6 := hiD (HS.out.gr hg6)
     have HU6 := hiD (HU.out.gr hg6)
     have hvlow : ∀ k, v.ownBlock = some k → W1.heap.size ≤ k ∧ k < nb5 := fun k e => by rw [hnb5]; exact HS.out.out.lt k e
     have HVL2 := hiD hvlow
     have s61 : W1.heap.size ≤ w6.heap.size := HU6.out.size
     have hlq : (l.take q).length ≤ 1000000 := by simp; omega
     have hrob : ∃ A9 c9, (.slice (some ⟨nb5 + 1, 0, none⟩) 0 0 : Value) = .slice A9 s.vals.length c9 ∧ s.vals.length ≤ c9 ∧ ∀ w7, Gr w6 w7 → ∀ W2 : World, (∀ k, W1.heap.size ≤ k → k < w7.heap.size → some k ≠ v.ownBlock → W2.heap[k]? = w7.heap[k]?) → ValRow W2 A9 s.vals := by
      obtain ⟨A9, c9, e9, l9, _⟩ := OwnV.row hov (by rw [← HVN.out]; omega)
      refine ⟨A9, c9, e9, l9, fun w7 h7 W2 ha => ?_⟩
      have h7b : OwnV w7 nb5 (.slice (some ⟨nb5 + 1, 0, none⟩) 0 0) s.vals := World.ownsRow.kept hov (Gr.by h7) (by cases (.slice (some ⟨nb5 + 1, 0, none⟩) 0 0 : Value).ownBlock <;> simp)
      have h8 : OwnV W2 nb5 (.slice (some ⟨nb5 + 1, 0, none⟩) 0 0) s.vals := ownsRow_agree h7b (fun k h1 h2 => ha k (by have := HU.out.size; omega) h2 (fun e => by have := (hvlow k e.symm).2; omega))
      exact tZ108
     have HROB := hiD hrob
     clear hg6 hnb5 hb6 hov hvlow hrob
     go_wp2_with (at_builtin; refine wpList_sgs rfl _ _ rfl W1.heap.size v (l.take q) hs rfl (HS6.out.gr gw) _ _ s (.slice (some ⟨nb5 + 1, 0, none⟩) 0 0) rfl (fun j u hu => (World.cell?_alloc_at _ _ _ _ (by go_simp)).trans (by simpa using hu)) rfl hlq (by simp <;> omega) (by obtain ⟨A9, c9, e9, l9, r9⟩ := HROB.out; exact ⟨A9, c9, e9, l9, r9 _ gw⟩) ?_; intro v5 w5 HS5 HR5; obtain ⟨A5, l5, c5, hv5⟩ : ∃ A5 l5 c5, v5 = .slice A5 l5 c5 := (by obtain ⟨A5, c5, hv5, _⟩ := HS5.out.row (by simp; omega); exact ⟨A5, _, c5, hv5⟩); subst hv5; have hb7 : w5.heap[w.heap.size + 2]? = some (.cells #[.int .i64 most, v] 24 (0, 0)) := (HR5.out.by'.block (w.heap.size + 2) (by simp; omega) (fun e => by have := (HVL2.out _ e.symm).1; omega)).trans (((Gr.refl w6).alloc _).b.block _ p6 |>.trans HB6.out); have y7 := cell_of_row w5 (w.heap.size + 2) 1 _ 24 (0, 0) hb7; have z7 := frozen_of_row w5 (w.heap.size + 2) 1 _ 24 hb7; simp only [List.getElem?_toArray, List.getElem?_cons_zero, List.getElem?_cons_succ] at y7; have p7 := lcc w5 _ y7; have HB7 := hiD hb7; clear hb7)
     go_roundw
     case rel =>
      refine ⟨q + 1, .slice A5 l5 c5, hs ++ [.slice (some ⟨nb5 + 1, 0, none⟩) 0 0], by go_num, by omega, ?_, ?_, ?_⟩
      ·exact ((HU6.out.gr ((Gr.refl w6).alloc _)).grown HR5.out.by' (fun k e => (HVL2.out k e).1) HR5.out.dr).setCell _ 1 _ (.inl rfl)
      ·have := heap_setCell_same w5 (w.heap.size + 2) 1 _ 24 (.slice A5 l5 c5) HB7.out
       show _ = _
       rw [this]; rfl
      ·show SgsH _ _ _ _ _
       rw [show l.take (q + 1) = l.take q ++ [s] by rw [List.take_add_one, HS2.out]; rfl]
       exact HS5.out.kept (setCell_by _ _ _ _) (fun k e => by cases e; omega)
     case measure => simp [intOf]; omega
   ·obtain ⟨vb, vo, rfl, hvcs⟩ := vals_cells HVR.out hve
    have hvb : vb < wr.heap.size := by
     obtain ⟨v0, hv0⟩ : ∃ v0, s.vals[0]? = some v0 := ⟨_, gE (by have : s.vals.length ≠ 0 := fun e => hve (List.eq_nil_of_length_eq_zero e); omega)⟩
     exact lcc wr _ (hvcs 0 _ (by simpa using vcl_get hv0 (show 0 < 4 by omega)))
    have HVC := hiD hvcs
    clear hvcs
    go_upto_region 7 with (at_builtin; refine wpList_vals rfl _ _ rfl (wr.heap.size + 1) (.slice (some ⟨wr.heap.size + 1, 0, none⟩) 0 0) rfl (own_madeV wr _) vb vo vc s.vals vn HVN.out.symm rfl (fun j u hu => Gr.cell gw (HVC.out j u hu)) (by omega) (by simp <;> omega) ?_; intro v4 w4 HO4 HS4; obtain ⟨A4, c4, hv4, hvc4, hvr4⟩ := OwnV.row HO4.out (by rw [← HVN.out]; omega); rw [← HVN.out] at hv4; subst hv4; have k4 : w4.cell? ⟨wr.heap.size, 4, none⟩ = some (.slice (some ⟨vb, vo, none⟩) vn vc) := HS4.out.by'.cell (by go_simp) (by simp [Value.ownBlock]); have k0 : w4.cell? ⟨wr.heap.size, 0, none⟩ = some (.string s.code) := HS4.out.by'.cell (by go_simp) (by simp [Value.ownBlock]); have k1 : w4.cell? ⟨wr.heap.size, 1, none⟩ = some (.int .i64 s.wide) := HS4.out.by'.cell (by go_simp) (by simp [Value.ownBlock]); have k2 : w4.cell? ⟨wr.heap.size, 2, none⟩ = some (.int .i64 s.high) := HS4.out.by'.cell (by go_simp) (by simp [Value.ownBlock]); have k3 : w4.cell? ⟨wr.heap.size, 3, none⟩ = some (.bool s.flag) := HS4.out.by'.cell (by go_simp) (by simp [Value.ownBlock]); have f4 : w4.frozen? ⟨wr.heap.size, 4, none⟩ = false := (World.frozen?_of_block (HS4.out.by'.block wr.heap.size (by simp <;> omega) (by simp [Value.ownBlock]))).trans (by go_simp); have n4 := lcc w4 _ k4)
    have x0 : (w4.setCell ⟨wr.heap.size, 4, none⟩ (.slice A4 vn c4)).cell? ⟨wr.heap.size, 0, none⟩ = some (.string s.code) := (World.cell?_setCell_other _ _ _ _ (by simp)).trans k0
    have x1 : (w4.setCell ⟨wr.heap.size, 4, none⟩ (.slice A4 vn c4)).cell? ⟨wr.heap.size, 1, none⟩ = some (.int .i64 s.wide) := (World.cell?_setCell_other _ _ _ _ (by simp)).trans k1
    have x2 : (w4.setCell ⟨wr.heap.size, 4, none⟩ (.slice A4 vn c4)).cell? ⟨wr.heap.size, 2, none⟩ = some (.int .i64 s.high) := (World.cell?_setCell_other _ _ _ _ (by simp)).trans k2
    have x3 : (w4.setCell ⟨wr.heap.size, 4, none⟩ (.slice A4 vn c4)).cell? ⟨wr.heap.size, 3, none⟩ = some (.bool s.flag) := (World.cell?_setCell_other _ _ _ _ (by simp)).trans k3
    have x4 : (w4.setCell ⟨wr.heap.size, 4, none⟩ (.slice A4 vn c4)).cell? ⟨wr.heap.size, 4, none⟩ = some (.slice A4 vn c4) := World.cell?_setCell_same' _ _ _ (by rw [k4]; rfl)
    have gg6 : Gr wr (w4.setCell ⟨wr.heap.size, 4, none⟩ (.slice A4 vn c4)) := (Gr.grown (w := wr) gw HS4.out.by' (fun q hq => by simp [Value.ownBlock] at hq; omega) HS4.out.dr).setCell (p := ⟨wr.heap.size, 4, none⟩) (Nat.le_refl _) _
    have hov : OwnV (w4.setCell ⟨wr.heap.size, 4, none⟩ (.slice A4 vn c4)) wr.heap.size (.slice A4 vn c4) s.vals := ownV_lower (World.ownsRow.kept HO4.out (setCell_by _ _ _ _) (by cases hb : (Value.slice A4 vn c4).ownBlock with | none => exact .inl rfl | some k => exact .inr fun e => by have := (HO4.out.lt k hb).1; cases e; omega)) (by omega)
    clear k0 k1 k2 k3 k4 f4 n4 HO4 HS4 hvc4 hvr4
    have hg6 : Gr wr (w4.setCell ⟨wr.heap.size, 4, none⟩ (.slice A4 vn c4)) := gg6
    generalize w4.setCell ⟨wr.heap.size, 4, none⟩ (.slice A4 vn c4) = w6 at x0 x1 x2 x3 x4 hg6 hov ⊢
    clear gg6
    obtain ⟨nb5, hnb5⟩ : ∃ nb5, nb5 = wr.heap.size := ⟨_, rfl⟩
    rw [← hnb5] at x0 x1 x2 x3 x4 hov ⊢
    have HNB := hiD hnb5
    have p5 := lcc w6 _ x0
    have HOV := hiD hov
    have hb6 : w6.heap[w.heap.size + 2]? = some (.cells #[.int .i64 most, v] 24 (0, 0)) := (hg6.b.block _ (Array.getElem?_eq_some_iff.1 HB.out).1).trans HB.out
    have y1 := cell_of_row w6 (w.heap.size + 2) 1 _ 24 (0, 0) hb6
    simp only [List.getElem?_toArray, List.getElem?_cons_zero, List.getElem?_cons_succ] at y1
    have p6 := lcc w6 _ y1
    have HB6 := hiD hb6
    have HS6 := hiD (HS.out.gr hg6)
    have HU6 := hiD (HU.out.gr hg6)
    have hvlow : ∀ k, v.ownBlock = some k → W1.heap.size ≤ k ∧ k < nb5 := fun k e => by rw [hnb5]; exact HS.out.out.lt k e
    have HVL2 := hiD hvlow
    have s61 : W1.heap.size ≤ w6.heap.size := HU6.out.size
    have hlq : (l.take q).length ≤ 1000000 := by simp; omega
    have hrob : ∃ A9 c9, (.slice A4 vn c4 : Value) = .slice A9 s.vals.length c9 ∧ s.vals.length ≤ c9 ∧ ∀ w7, Gr w6 w7 → ∀ W2 : World, (∀ k, W1.heap.size ≤ k → k < w7.heap.size → some k ≠ v.ownBlock → W2.heap[k]? = w7.heap[k]?) → ValRow W2 A9 s.vals := by
     obtain ⟨A9, c9, e9, l9, _⟩ := OwnV.row hov (by rw [← HVN.out]; omega)
     refine ⟨A9, c9, e9, l9, fun w7 h7 W2 ha => ?_⟩
     have h7b : OwnV w7 nb5 (.slice A4 vn c4) s.vals := World.ownsRow.kept hov (Gr.by h7) (by cases (.slice A4 vn c4 : Value).ownBlock <;> simp)
     have h8 : OwnV W2 nb5 (.slice A4 vn c4) s.vals := ownsRow_agree h7b (fun k h1 h2 => ha k (by have := HU.out.size; omega) h2 (fun e => by have := (hvlow k e.symm).2; omega))
     exact tZ108
    have HROB := hiD hrob
    clear hg6 hnb5 hb6 hov hvlow hrob
    go_wp2_with (at_builtin; refine wpList_sgs rfl _ _ rfl W1.heap.size v (l.take q) hs rfl (HS6.out.gr gw) _ _ s (.slice A4 vn c4) rfl (fun j u hu => (World.cell?_alloc_at _ _ _ _ (by go_simp)).trans (by simpa using hu)) rfl hlq (by simp <;> omega) (by obtain ⟨A9, c9, e9, l9, r9⟩ := HROB.out; exact ⟨A9, c9, e9, l9, r9 _ gw⟩) ?_; intro v5 w5 HS5 HR5; obtain ⟨A5, l5, c5, hv5⟩ : ∃ A5 l5 c5, v5 = .slice A5 l5 c5 := (by obtain ⟨A5, c5, hv5, _⟩ := HS5.out.row (by simp; omega); exact ⟨A5, _, c5, hv5⟩); subst hv5; have hb7 : w5.heap[w.heap.size + 2]? = some (.cells #[.int .i64 most, v] 24 (0, 0)) := (HR5.out.by'.block (w.heap.size + 2) (by simp; omega) (fun e => by have := (HVL2.out _ e.symm).1; omega)).trans (((Gr.refl w6).alloc _).b.block _ p6 |>.trans HB6.out); have y7 := cell_of_row w5 (w.heap.size + 2) 1 _ 24 (0, 0) hb7; have z7 := frozen_of_row w5 (w.heap.size + 2) 1 _ 24 hb7; simp only [List.getElem?_toArray, List.getElem?_cons_zero, List.getElem?_cons_succ] at y7; have p7 := lcc w5 _ y7; have HB7 := hiD hb7; clear hb7)
    go_roundw
    case rel =>
     refine ⟨q + 1, .slice A5 l5 c5, hs ++ [.slice A4 vn c4], by go_num, by omega, ?_, ?_, ?_⟩
     ·exact ((HU6.out.gr ((Gr.refl w6).alloc _)).grown HR5.out.by' (fun k e => (HVL2.out k e).1) HR5.out.dr).setCell _ 1 _ (.inl rfl)
     ·have := heap_setCell_same w5 (w.heap.size + 2) 1 _ 24 (.slice A5 l5 c5) HB7.out
      show _ = _
      rw [this]; rfl
     ·show SgsH _ _ _ _ _
      rw [show l.take (q + 1) = l.take q ++ [s] by rw [List.take_add_one, HS2.out]; rfl]
      exact HS5.out.kept (setCell_by _ _ _ _) (fun k e => by cases e; omega)
    case measure => simp [intOf]; omega
  ·obtain rfl : q = len := by omega
   have d1 : decide ((q : Int) < (q : Int)) = false := by simp
   have htk : l.take q = l := List.take_of_length_le (by rw [HL.out]; exact Nat.le_refl _)
   rw [htk] at HS
   obtain ⟨A5, c5, hv5, hsr⟩ := HS.out.row (by rw [HL.out]; omega)
   rw [HL.out] at hv5
   subst hv5
   have y0 := cell_of_row wr (w.heap.size + 2) 0 _ 24 (0, 0) HB.out
   have y1 := cell_of_row wr (w.heap.size + 2) 1 _ 24 (0, 0) HB.out
   simp only [List.getElem?_toArray, List.getElem?_cons_zero, List.getElem?_cons_succ] at y0 y1
   have e0 := HU.out.cell (by omega) R0.out
   have e1 := HU.out.cell (by omega) R1.out
   have p7 := lcc wr _ y0
   have p8 := lcc wr _ e0
   have f0 : wr.frozen? ⟨w.heap.size + 1, 0, none⟩ = false := (World.frozen?_of_block (HU.out.keep (w.heap.size + 1) (by omega) (by omega))).trans FZ0.out
   have f1 : wr.frozen? ⟨w.heap.size + 1, 1, none⟩ = false := (World.frozen?_of_block (HU.out.keep (w.heap.size + 1) (by omega) (by omega))).trans FZ1.out
   clear hsr htk
   go_wp2_with fail
   refine bodyPost_ret (res_cell Tryz.isAgg24 Tryz.sizeOf24 Tryz.results12 rfl (v := lv most A5 q c5) (rowV_of rfl fun j u hu => ?_)) rfl ⟨A5, ⟨c5, rfl⟩, ?_, ?_⟩
   ·rcases j with _ | _ | j
    ·simp at hu; subst hu
     exact (World.cell?_setCell_other _ _ _ _ (by simp)).trans (World.cell?_setCell_same' _ _ _ (by rw [e0]; rfl))
    ·simp at hu; subst hu
     exact World.cell?_setCell_same' _ _ _ (by rw [World.cell?_setCell_other _ _ _ _ (by simp), e1]; rfl)
    ·simp at hu
   ·intro W2 ha
    obtain ⟨A6, c6, hv6, hsr6⟩ := (((HS.out.kept (setCell_by wr (w.heap.size + 1) 0 (.int .i64 most)) (fun k e => by cases e; omega)).kept (setCell_by _ (w.heap.size + 1) 1 (.slice A5 q c5)) (fun k e => by cases e; omega)).agree (W2 := W2) (fun k h1 h2 => ha k (by omega) h2)).row (by rw [HL.out]; omega)
    injection hv6 with e61 e62 e63
    subst e61; exact hsr6
   ·exact ((HU.out.to_gr G1.out (by omega)).setCell (p := ⟨w.heap.size + 1, 0, none⟩) (by simp) _).setCell (p := ⟨w.heap.size + 1, 1, none⟩) (by simp) _
set_option maxRecDepth 100000 in
set_option maxHeartbeats 4000000 in
theorem list4_call (most : Int) (SA : Option Addr) (sn sc : Nat) (A : Option Addr) (len c : Nat) (l : List Sg) (w : World) (hr : SgRow w SA l) (hl : l.length = sn) (hlen : sn ≤ 1000) (hvl : ∀ s ∈ l, s.vals.length ≤ 1000) :
 Calls Tryz.prog 27 #[ppv most SA sn sc A len c] w fun e w' => ∃ A', (∃ c', e = .returned (lv most A' sn c')) ∧ (∀ W2 : World, (∀ k, w.heap.size + 2 ≤ k → k < w'.heap.size → W2.heap[k]? = w'.heap[k]?) → SgRow W2 A' l) ∧ Gr w w' := by
 have HT := hiD (copyList_call most SA sn sc l ((w.alloc (.cells #[.int .i64 most, .slice SA sn sc, .slice A len c] 56)).alloc (.cells #[.int .i64 0, .slice none 0 0] 24)) (hr.gr (((Gr.refl w).alloc _).alloc _)) hl hlen hvl)
 clear hr hl
 go_enter Tryz.func27, Tryz.ntmps27
 go_wp2_with fail
 refine HT.out.mono ?_
 rintro e w1 ⟨A1, c1, rfl, ho, hg⟩
 have c0 := hg.cell (show ((w.alloc (.cells #[.int .i64 most, .slice SA sn sc, .slice A len c] 56)).alloc (.cells #[.int .i64 0, .slice none 0 0] 24)).cell? ⟨w.heap.size + 1, 0, none⟩ = some (.int .i64 0) by go_simp)
 have d0 := hg.cell (show ((w.alloc (.cells #[.int .i64 most, .slice SA sn sc, .slice A len c] 56)).alloc (.cells #[.int .i64 0, .slice none 0 0] 24)).cell? ⟨w.heap.size + 1, 1, none⟩ = some (.slice none 0 0) by go_simp)
 have f0 : w1.frozen? ⟨w.heap.size + 1, 0, none⟩ = false := (World.frozen?_of_block (hg.b.block (w.heap.size + 1) (by simp <;> omega))).trans (by go_simp)
 have f1 : w1.frozen? ⟨w.heap.size + 1, 1, none⟩ = false := (World.frozen?_of_block (hg.b.block (w.heap.size + 1) (by simp <;> omega))).trans (by go_simp)
 have n1 := lcc w1 _ c0
 have HG := hiD ((((Gr.refl w).alloc _).alloc _).trans hg)
 have HO := hiD ho
 clear hg ho
 go_wp2_with fail
 refine bodyPost_ret (res_cell Tryz.isAgg24 Tryz.sizeOf24 Tryz.results27 rfl (v := lv most A1 sn c1) (rowV_of rfl fun j u hu => ?_)) rfl ⟨A1, ⟨c1, rfl⟩, ?_, ?_⟩
 ·rcases j with _ | _ | j
  ·simp at hu; subst hu
   exact (World.cell?_setCell_other _ _ _ _ (by simp)).trans (World.cell?_setCell_same' _ _ _ (by rw [c0]; rfl))
  ·simp at hu; subst hu
   exact World.cell?_setCell_same' _ _ _ (by rw [World.cell?_setCell_other _ _ _ _ (by simp), d0]; rfl)
  ·simp at hu
 ·intro W2 ha
  refine HO.out W2 fun k h1 h2 => ?_
  have h3 : w.heap.size + 2 ≤ k := by simpa using h1
  refine (ha k h3 (by rw [setCell_size, setCell_size]; exact h2)).trans ?_
  exact (setCell_other _ (w.heap.size + 1) 1 k _ (by omega)).trans (setCell_other _ (w.heap.size + 1) 0 k _ (by omega))
 ·exact (HG.out.setCell (p := ⟨w.heap.size + 1, 0, none⟩) (by simp) _).setCell (p := ⟨w.heap.size + 1, 1, none⟩) (by simp) _
end Go.Proofs.OGW
namespace Go.Proofs.OGW
open Go.ChangeShapes Go.WideShapes Go.ChangeAt Go.RowKit Go.Sort OG
theorem row_of {α : Type} {At : Nat → α → Prop} : ∀ (n : Nat), (∀ i, i < n → ∃ x, At i x) → ∃ xs : List α, xs.length = n ∧ ∀ j x, xs[j]? = some x → At j x
 | 0, _ => ⟨[], rfl, fun j x hx => by simp at hx⟩
 | n + 1, h => by
   obtain ⟨xs, hl, ha⟩ := row_of n (fun i hi => h i (by omega))
   obtain ⟨x, hx⟩ := h n (by omega)
   refine ⟨xs ++ [x], by simp [hl], fun j y hy => ?_⟩
   rcases Nat.lt_trichotomy j n with hj | hj | hj
   ·rw [List.getElem?_append_left (by omega)] at hy
    exact ha j y hy
   ·subst hj
    rw [List.getElem?_append_right (by omega), hl, Nat.sub_self] at hy
    simp at hy
    rw [← hy]; exact hx
   ·rw [List.getElem?_eq_none (by simp; omega)] at hy
    cases hy
section
variable {H : Type} {enc : TypeId × Value → H} {w : World} {base : Nat} {spare : Nat → Bool} {held : Bool}
def Sized (t : TypeId) (d : DataW H) : Prop := ∀ n ∈ d.weights Tryz.prog t, n ≤ reachBytes
theorem open_str {n : Nat} {t : TypeId} {cs : List Value} {x : DataW H × List MemPlace} {fs : Array Field} (ht : Tryz.prog.underlying t = some (.struct fs)) (h : DataW.trod enc Tryz.prog w base spare held n t cs = some x) (hw : Sized t x.1) :
 cs.length = Tryz.prog.cellsOf t ∧ ∀ (i : Nat) (f : Field), fs[i]? = some f → ∃ m y, DataW.trod enc Tryz.prog w base spare held m f.type ((cs.drop f.offset).take (Tryz.prog.cellsOf f.type)) = some y ∧ Sized f.type y.1 := by
 obtain ⟨xs, m, _, rfl, hl, hx, hf⟩ := DataW.trod_struct ht h
 refine ⟨hl, fun i f hi => ?_⟩
 have hlt : i < fs.size := (Array.getElem?_eq_some_iff.1 hi).1
 obtain ⟨y, hy⟩ : ∃ y, xs[i]? = some y := ⟨_, gE (by omega)⟩
 refine ⟨m, y, by rw [hf i f hi, hy], fun k hk => hw k ?_⟩
 simp only [DataW.weights, ht]
 exact DataW.weights_mem_each (j := i) (by simp [hi]) (by simp [hy]) k hk
theorem mem_all {P : Program} {e : TypeId} {d : DataW H} : ∀ {ds : List (DataW H)}, d ∈ ds → ∀ n ∈ d.weights P e, n ∈ DataW.weightsAll P e ds
 | x :: r, hd, n, hn => by
   simp only [DataW.weightsAll, List.mem_append]
   rcases List.mem_cons.1 hd with rfl | hd
   ·exact .inl hn
   ·exact .inr (mem_all hd n hn)
theorem cells_at {a : Addr} {n : Nat} {cs : List Value} (h : w.cells? base a n = some cs) : cs.length = n ∧ ∀ i, i < n → w.cell? (a.add i) = cs[i]? := by
 unfold World.cells? at h
 split at h
 ·exact ⟨by simpa using mapM_some_length h, fun i hi => mapM_some_get h i i (by simp [hi])⟩
 ·cases h
theorem add_at (b o n : Nat) : (⟨b, o, none⟩ : Addr).add n = ⟨b, o + n, none⟩ := by
 unfold Addr.add
 split
 ·rename_i h; rw [h]; rfl
 ·rfl
theorem open_slc {n : Nat} {t e : TypeId} {cs : List Value} {x : DataW H × List MemPlace} (ht : Tryz.prog.underlying t = some (.slice e)) (hb : 1 ≤ Tryz.prog.bytesOf e) (hc : 0 < Tryz.prog.cellsOf e) (h : DataW.trod enc Tryz.prog w base spare held n t cs = some x) (hw : Sized t x.1) :
 ∃ A len cap, cs = [.slice A len cap] ∧ len ≤ cap ∧ len ≤ 140737488355328 ∧ ∀ i, i < len → ∃ b o cs' m y, A = some ⟨b, o, none⟩ ∧ cs'.length = Tryz.prog.cellsOf e ∧ (∀ k c, cs'[k]? = some c → w.cell? ⟨b, o + i * Tryz.prog.cellsOf e + k, none⟩ = some c) ∧ DataW.trod enc Tryz.prog w base spare held m e cs' = some y ∧ Sized e y.1 := by
 rcases DataW.trod_slice ht h with ⟨rfl, rfl⟩ | ⟨a, len, cap, elems, rest, m, _, rfl, rfl, _, hlc, _, hel, hat, _, _⟩
 ·exact ⟨none, 0, 0, rfl, Nat.le_refl _, by decide, fun i hi => by omega⟩
 ·have hz : (elems.length + rest.length) * Tryz.prog.bytesOf e ≤ reachBytes := hw _ (by simp [DataW.weights, ht])
  have hz2 : elems.length + rest.length ≤ (elems.length + rest.length) * Tryz.prog.bytesOf e := Nat.le_mul_of_pos_right _ hb
  have hr := reachBytes_lt
  refine ⟨some a, len, cap, rfl, hlc, by omega, fun i hi => ?_⟩
  have h1 := hat i hi
  obtain ⟨y, hy⟩ : ∃ y, elems[i]? = some y := ⟨_, gE (by omega)⟩
  rw [hy, Option.bind_eq_some_iff] at h1
  obtain ⟨cs', h2, h3⟩ := h1
  obtain ⟨h4, h5⟩ := cells_at h2
  obtain ⟨b, o, sp⟩ := a
  have hsp : sp = none := by
   have g1 := hat 0 (by omega)
   obtain ⟨z, hz0⟩ : ∃ z, elems[0]? = some z := ⟨_, gE (by omega)⟩
   rw [hz0, Option.bind_eq_some_iff] at g1
   obtain ⟨cs0, g2, _⟩ := g1
   obtain ⟨g4, g5⟩ := cells_at g2
   have g6 := g5 0 hc
   obtain ⟨c0, hc0⟩ : ∃ c, cs0[0]? = some c := ⟨_, gE (by omega)⟩
   rw [hc0] at g6
   have hs := World.cell?_spot g6
   simpa [Addr.add] using hs
  subst hsp
  refine ⟨b, o, cs', m, y, rfl, h4, fun k c hk => ?_, h3, fun k hk => hw k ?_⟩
  ·have hlt : k < cs'.length := (gO hk).1
   have := h5 k (by omega)
   rw [add_at, add_at, hk] at this
   exact this
  ·simp only [DataW.weights, ht, List.mem_cons, List.mem_append]
   exact .inr (.inl (mem_all (List.mem_map.2 ⟨y, List.mem_of_getElem? hy, rfl⟩) k hk))
theorem take_one {cs : List Value} {o : Nat} {v : Value} (h : (cs.drop o).take 1 = [v]) : cs[o]? = some v := by
 have := congrArg (fun l => l[0]?) h
 simpa [List.getElem?_take, List.getElem?_drop] using this
theorem take_two {cs : List Value} {o : Nat} {u v : Value} (h : (cs.drop o).take 2 = [u, v]) : cs[o]? = some u ∧ cs[o + 1]? = some v := by
 have h0 := congrArg (fun l => l[0]?) h
 have h1 := congrArg (fun l => l[1]?) h
 exact ⟨by simpa [List.getElem?_take, List.getElem?_drop] using h0, by simpa [List.getElem?_take, List.getElem?_drop] using h1⟩
theorem cz3 : Tryz.prog.cellsOf 3 = 1 := by kernel_rfl
theorem cz4 : Tryz.prog.cellsOf 4 = 1 := by kernel_rfl
theorem cz9 : Tryz.prog.cellsOf 9 = 1 := by kernel_rfl
theorem f_int {n : Nat} {cs : List Value} {o : Nat} {x : DataW H × List MemPlace} (h : DataW.trod enc Tryz.prog w base spare held n 3 ((cs.drop o).take (Tryz.prog.cellsOf 3)) = some x) : ∃ m, cs[o]? = some (.int .i64 m) := by
 obtain ⟨m, e, _⟩ := DataW.trod_int Tryz.underlying3 h
 rw [cz3] at e
 exact ⟨m, take_one e⟩
theorem f_bool {n : Nat} {cs : List Value} {o : Nat} {x : DataW H × List MemPlace} (h : DataW.trod enc Tryz.prog w base spare held n 4 ((cs.drop o).take (Tryz.prog.cellsOf 4)) = some x) : ∃ m, cs[o]? = some (.bool m) := by
 obtain ⟨m, e, _⟩ := DataW.trod_bool Tryz.underlying4 h
 rw [cz4] at e
 exact ⟨m, take_one e⟩
theorem f_str {n : Nat} {cs : List Value} {o : Nat} {x : DataW H × List MemPlace} (h : DataW.trod enc Tryz.prog w base spare held n 9 ((cs.drop o).take (Tryz.prog.cellsOf 9)) = some x) : ∃ m, cs[o]? = some (.string m) := by
 obtain ⟨m, e, _⟩ := DataW.trod_string Tryz.underlying9 h
 rw [cz9] at e
 exact ⟨m, take_one e⟩
theorem open_node {n : Nat} {cs : List Value} {x : DataW H × List MemPlace} (h : DataW.trod enc Tryz.prog w base spare held n 51 cs = some x) (hw : Sized 51 x.1) : ∃ nd : Nd, ∀ (k : Nat) (c : Value), ([.int .i64 nd.lf.kind, .int .i64 nd.depth, .int .i64 nd.lf.sign, .int .i64 nd.lf.turn, .bool nd.lf.mirror, .int .i64 nd.lf.state, .int .i64 nd.lf.mn, .int .i64 nd.lf.mx] : List Value)[k]? = some c → cs[k]? = some c := by
 obtain ⟨_, hf⟩ := open_str Tryz.underlying51 h hw
 obtain ⟨_, _, h0, _⟩ := hf 0 _ rfl
 obtain ⟨_, _, h1, _⟩ := hf 1 _ rfl
 obtain ⟨_, _, h2, _⟩ := hf 2 _ rfl
 obtain ⟨_, _, h3, _⟩ := hf 3 _ rfl
 obtain ⟨_, _, h4, _⟩ := hf 4 _ rfl
 obtain ⟨_, _, h5, _⟩ := hf 5 _ rfl
 obtain ⟨_, _, h6, _⟩ := hf 6 _ rfl
 obtain ⟨_, _, h7, _⟩ := hf 7 _ rfl
 obtain ⟨a0, e0⟩ := f_int h0
 obtain ⟨a1, e1⟩ := f_int h1
 obtain ⟨a2, e2⟩ := f_int h2
 obtain ⟨a3, e3⟩ := f_int h3
 obtain ⟨a4, e4⟩ := f_bool h4
 obtain ⟨a5, e5⟩ := f_int h5
 obtain ⟨a6, e6⟩ := f_int h6
 obtain ⟨a7, e7⟩ := f_int h7
 refine ⟨⟨⟨a0, a2, a3, a4, a5, a6, a7⟩, a1⟩, fun k c hk => ?_⟩
 rcases k with _ | _ | _ | _ | _ | _ | _ | _ | k <;> simp at hk <;> subst hk
 ·exact e0
 ·exact e1
 ·exact e2
 ·exact e3
 ·exact e4
 ·exact e5
 ·exact e6
 ·exact e7
theorem cz51 : Tryz.prog.cellsOf 51 = 8 := by kernel_rfl
theorem open_nodes {n : Nat} {cs : List Value} {x : DataW H × List MemPlace} (h : DataW.trod enc Tryz.prog w base spare held n 31 cs = some x) (hw : Sized 31 x.1) : ∃ A len cap ns, cs = [.slice A len cap] ∧ NdRow w A ns ∧ ns.length = len := by
 obtain ⟨A, len, cap, rfl, _, hl, he⟩ := open_slc Tryz.underlying31 (of_decide_eq_true (by kernel_rfl)) (by rw [cz51]; decide) h hw
 obtain ⟨ns, h1, h2⟩ := row_of (At := fun i (y : Nd) => ∃ b o, A = some ⟨b, o, none⟩ ∧ NdAt w b (o + i * 8) y) len (fun i hi => by
  obtain ⟨b, o, cs', m, y, rfl, _, hc, ht, hs⟩ := he i hi
  obtain ⟨nd, hnd⟩ := open_node ht hs
  rw [cz51] at hc
  exact ⟨nd, b, o, rfl, rowV_of rfl fun j u hu => hc j u (hnd j u (by simpa using hu))⟩)
 exact ⟨A, len, cap, ns, rfl, ⟨by omega, h2⟩, h1⟩
theorem open_val {n : Nat} {cs : List Value} {x : DataW H × List MemPlace} (h : DataW.trod enc Tryz.prog w base spare held n 136 cs = some x) (hw : Sized 136 x.1) : ∃ v : Val, cs[0]? = some (.int .i64 v.kind) ∧ cs[1]? = some (.string v.text) ∧ cs[2]? = some (.int .i64 v.mn) ∧ cs[3]? = some (.int .i64 v.mx) := by
 obtain ⟨_, hf⟩ := open_str Tryz.underlying136 h hw
 obtain ⟨_, _, h0, _⟩ := hf 0 _ rfl
 obtain ⟨_, _, h1, _⟩ := hf 1 _ rfl
 obtain ⟨_, _, h2, _⟩ := hf 2 _ rfl
 obtain ⟨_, _, h3, _⟩ := hf 3 _ rfl
 obtain ⟨a0, e0⟩ := f_int h0
 obtain ⟨a1, e1⟩ := f_str h1
 obtain ⟨a2, e2⟩ := f_int h2
 obtain ⟨a3, e3⟩ := f_int h3
 exact ⟨⟨a0, a1, a2, a3⟩, e0, e1, e2, e3⟩
theorem cz136 : Tryz.prog.cellsOf 136 = 4 := by kernel_rfl
theorem open_vals {n : Nat} {cs : List Value} {x : DataW H × List MemPlace} (h : DataW.trod enc Tryz.prog w base spare held n 75 cs = some x) (hw : Sized 75 x.1) : ∃ A cap vs, cs = [.slice A (List.length vs) cap] ∧ ValRow w A vs ∧ vs.length ≤ cap := by
 obtain ⟨A, len, cap, rfl, hcap, hl, he⟩ := open_slc Tryz.underlying75 (of_decide_eq_true (by kernel_rfl)) (by rw [cz136]; decide) h hw
 obtain ⟨ns, h1, h2⟩ := row_of (At := fun i (y : Val) => ∃ b o, A = some ⟨b, o, none⟩ ∧ ValAt w b (o + i * 4) y) len (fun i hi => by
  obtain ⟨b, o, cs', m, y, rfl, _, hc, ht, hs⟩ := he i hi
  obtain ⟨v, v0, v1, v2, v3⟩ := open_val ht hs
  rw [cz136] at hc
  exact ⟨v, b, o, rfl, hc 0 _ v0, hc 1 _ v1, hc 2 _ v2, hc 3 _ v3⟩)
 exact ⟨A, cap, ns, by rw [h1], ⟨by omega, h2⟩, by omega⟩
theorem cz75 : Tryz.prog.cellsOf 75 = 1 := by kernel_rfl
theorem cz77 : Tryz.prog.cellsOf 77 = 5 := by kernel_rfl
theorem open_signs {n : Nat} {cs : List Value} {x : DataW H × List MemPlace} (h : DataW.trod enc Tryz.prog w base spare held n 22 cs = some x) (hw : Sized 22 x.1) : ∃ A len cap l, cs = [.slice A len cap] ∧ SgRow w A l ∧ l.length = len ∧ len ≤ 140737488355328 := by
 obtain ⟨A, len, cap, rfl, _, hl, he⟩ := open_slc Tryz.underlying22 (of_decide_eq_true (by kernel_rfl)) (by rw [cz77]; decide) h hw
 obtain ⟨ns, h1, h2⟩ := row_of (At := fun i (y : Sg) => ∃ b o, A = some ⟨b, o, none⟩ ∧ SgAt w b (o + i * 5) y) len (fun i hi => by
  obtain ⟨b, o, cs', m, y, rfl, _, hc, ht, hs⟩ := he i hi
  rw [cz77] at hc
  obtain ⟨_, hf⟩ := open_str Tryz.underlying77 ht hs
  obtain ⟨_, _, h0, _⟩ := hf 0 _ rfl
  obtain ⟨_, _, h1, _⟩ := hf 1 _ rfl
  obtain ⟨_, _, h2, _⟩ := hf 2 _ rfl
  obtain ⟨_, _, h3, _⟩ := hf 3 _ rfl
  obtain ⟨_, _, h4, s4⟩ := hf 4 _ rfl
  obtain ⟨a0, e0⟩ := f_str h0
  obtain ⟨a1, e1⟩ := f_int h1
  obtain ⟨a2, e2⟩ := f_int h2
  obtain ⟨a3, e3⟩ := f_bool h3
  obtain ⟨VA, vc, vs, e4, hv, hvc⟩ := open_vals h4 s4
  have e4' : (cs'.drop 4).take (Tryz.prog.cellsOf 75) = _ := e4
  rw [cz75] at e4'
  have e4' := take_one e4'
  exact ⟨⟨a0, a1, a2, a3, vs⟩, b, o, rfl, hc 0 _ e0, hc 1 _ e1, hc 2 _ e2, hc 3 _ e3, VA, vc, hc 4 _ e4', hvc, hv⟩)
 exact ⟨A, len, cap, ns, rfl, ⟨by omega, h2⟩, h1, hl⟩
theorem len_cells {α : Type} {l : List α} {n : Nat} (h : l.length = n) : ∀ i, i < n → ∃ x, l[i]? = some x := fun i hi => ⟨_, gE (by omega)⟩
theorem three {cs : List Value} {a b c : Value} (hl : cs.length = 3) (h0 : cs[0]? = some a) (h1 : cs[1]? = some b) (h2 : cs[2]? = some c) : cs = [a, b, c] := by
 match cs, hl with
 | [x, y, z], _ => simp at h0 h1 h2; rw [h0, h1, h2]
theorem two {cs : List Value} {a b : Value} (hl : cs.length = 2) (h0 : cs[0]? = some a) (h1 : cs[1]? = some b) : cs = [a, b] := by
 match cs, hl with
 | [x, y], _ => simp at h0 h1; rw [h0, h1]
theorem cz22 : Tryz.prog.cellsOf 22 = 1 := by kernel_rfl
theorem cz24 : Tryz.prog.cellsOf 24 = 2 := by kernel_rfl
theorem cz27 : Tryz.prog.cellsOf 27 = 2 := by kernel_rfl
theorem cz31 : Tryz.prog.cellsOf 31 = 1 := by kernel_rfl
theorem cz33 : Tryz.prog.cellsOf 33 = 1 := by kernel_rfl
theorem cz56 : Tryz.prog.cellsOf 56 = 3 := by kernel_rfl
theorem open_list {n : Nat} {cs : List Value} {x : DataW H × List MemPlace} (h : DataW.trod enc Tryz.prog w base spare held n 24 cs = some x) (hw : Sized 24 x.1) : ∃ most SA sn sc l, cs = [.int .i64 most, .slice SA sn sc] ∧ SgRow w SA l ∧ l.length = sn ∧ sn ≤ 140737488355328 := by
 obtain ⟨hl, hf⟩ := open_str Tryz.underlying24 h hw
 obtain ⟨_, _, h0, _⟩ := hf 0 _ rfl
 obtain ⟨_, _, h1, s1⟩ := hf 1 _ rfl
 obtain ⟨a0, e0⟩ := f_int h0
 obtain ⟨A, len, cap, l, e1, r1, r2, r3⟩ := open_signs h1 s1
 have e1' : (cs.drop 1).take (Tryz.prog.cellsOf 22) = _ := e1
 rw [cz22] at e1'
 have e1' := take_one e1'
 exact ⟨a0, A, len, cap, l, two (by rw [hl, cz24]) e0 e1', r1, r2, r3⟩
theorem open_text {n : Nat} {cs : List Value} {x : DataW H × List MemPlace} (h : DataW.trod enc Tryz.prog w base spare held n 33 cs = some x) (hw : Sized 33 x.1) : ∃ A len c ns, cs = [.slice A len c] ∧ NdRow w A ns ∧ ns.length = len := by
 obtain ⟨hl, hf⟩ := open_str Tryz.underlying33 h hw
 obtain ⟨_, _, h0, s0⟩ := hf 0 _ rfl
 obtain ⟨A, len, cap, l, e1, r1, r2⟩ := open_nodes h0 s0
 refine ⟨A, len, cap, l, ?_, r1, r2⟩
 have e2 : ((cs.drop 0).take (Tryz.prog.cellsOf 31)) = [.slice A len cap] := e1
 rw [cz31, List.drop_zero, List.take_of_length_le (by rw [hl, cz33]; exact Nat.le_refl _)] at e2
 exact e2
theorem open_paper {n : Nat} {cs : List Value} {x : DataW H × List MemPlace} (h : DataW.trod enc Tryz.prog w base spare held n 56 cs = some x) (hw : Sized 56 x.1) : ∃ most SA sn sc l A len c ns, cs = [.int .i64 most, .slice SA sn sc, .slice A len c] ∧ SgRow w SA l ∧ l.length = sn ∧ sn ≤ 140737488355328 ∧ NdRow w A ns ∧ ns.length = len := by
 obtain ⟨hl, hf⟩ := open_str Tryz.underlying56 h hw
 rw [cz56] at hl
 obtain ⟨_, _, h0, s0⟩ := hf 0 _ rfl
 obtain ⟨_, _, h1, s1⟩ := hf 1 _ rfl
 obtain ⟨most, SA, sn, sc, l, e0, r1, r2, r3⟩ := open_list h0 s0
 obtain ⟨A, len, c, ns, e1, q1, q2⟩ := open_text h1 s1
 have e0' : ((cs.drop 0).take (Tryz.prog.cellsOf 24)) = _ := e0
 have e1' : ((cs.drop 2).take (Tryz.prog.cellsOf 33)) = _ := e1
 rw [cz24] at e0'
 rw [cz33] at e1'
 refine ⟨most, SA, sn, sc, l, A, len, c, ns, ?_, r1, r2, r3, q1, q2⟩
 obtain ⟨k0, k1⟩ := take_two e0'
 exact three hl k0 k1 (take_one e1')
theorem open_page {n : Nat} {cs : List Value} {x : DataW H × List MemPlace} (h : DataW.trod enc Tryz.prog w base spare held n 27 cs = some x) (hw : Sized 27 x.1) : ∃ way L, cs = [.int .i64 way, .int .i64 L] := by
 obtain ⟨hl, hf⟩ := open_str Tryz.underlying27 h hw
 obtain ⟨_, _, h0, _⟩ := hf 0 _ rfl
 obtain ⟨_, _, h1, _⟩ := hf 1 _ rfl
 obtain ⟨a0, e0⟩ := f_int h0
 obtain ⟨a1, e1⟩ := f_int h1
 exact ⟨a0, a1, two (by rw [hl, cz27]) e0 e1⟩
theorem open_nums {n : Nat} {cs : List Value} {x : DataW H × List MemPlace} (h : DataW.trod enc Tryz.prog w base spare held n 57 cs = some x) (hw : Sized 57 x.1) : ∃ A len cap os, cs = [.slice A len cap] ∧ Row 1 IntAt w A os ∧ os.length = len ∧ len ≤ 140737488355328 := by
 obtain ⟨A, len, cap, rfl, _, hl, he⟩ := open_slc Tryz.underlying57 (of_decide_eq_true (by kernel_rfl)) (by rw [cz3]; decide) h hw
 obtain ⟨ns, h1, h2⟩ := row_of (At := fun i (y : Int) => ∃ b o, A = some ⟨b, o, none⟩ ∧ IntAt w b (o + i * 1) y) len (fun i hi => by
  obtain ⟨b, o, cs', m, y, rfl, hlen, hc, ht, hs⟩ := he i hi
  obtain ⟨v, rfl, _⟩ := DataW.trod_int Tryz.underlying3 ht
  rw [cz3] at hc
  exact ⟨v, b, o, rfl, hc 0 _ rfl⟩)
 exact ⟨A, len, cap, ns, rfl, ⟨by omega, h2⟩, h1, hl⟩
end
end Go.Proofs.OGW
