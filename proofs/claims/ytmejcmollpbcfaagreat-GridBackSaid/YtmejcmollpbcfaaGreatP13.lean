import Derived.Test.YtmejcmollpbcfaaGreatP12
set_option linter.all false
namespace Go.Proofs.OGW
open Go.RowKit Go.Sort OG Go.Shelf Go.PlainAid
attribute [local go_sem] sA fv sB sG sC Nat.zero_add
attribute [local go_sem ↓] ld66 ld51 st66 st51
theorem Row.take {α : Type} {sz : Nat} {At : World → Nat → Nat → α → Prop} {w : World} {A : Option Addr} {xs : List α} (h : Row sz At w A xs) (j : Nat) : Row sz At w A (xs.take j) := by
 refine ⟨Nat.le_trans (by simp; omega) h.1, fun i x hx => h.2 i x ?_⟩
 rw [List.getElem?_take] at hx
 split at hx
 ·exact hx
 ·cases hx
theorem mkMap (w : World) : (Instr.makeMap 137 none).run Tryz.prog w = .ok (.map (some w.heap.size)) (w.alloc (.map #[] 0)) := rfl
attribute [local go_sem] mkMap
theorem tZ22 {P : Prop} (h : P := by
 rw [HE.out, HSE.out]
 have h1 : sizeBad s = true := by simp [sizeBad]; omega
 simp only [signsE, HCB.out, HANY.out, h1, Bool.not_true, Bool.false_or, Bool.false_eq_true, if_true, if_false]) : P := h
theorem tZ39 {P : Prop} (h : P := by
 go_wp2_with fail
 go_ret
 exact ⟨by rw [HVE.out]; rfl, HU3.out.to_gr G1.out (by omega)⟩) : P := h
theorem tZ103 {P : Prop} (h : P := by
 rw [HE.out, HSE.out]
 simp only [signsE, HCB.out, HANY.out, HSZ.out, b5, Bool.not_true, Bool.false_or, Bool.false_eq_true, if_true, if_false]) : P := h
set_option maxHeartbeats 4000000 in
set_option maxRecDepth 100000 in
theorem signsCheck_call (most : Int) (A : Option Addr) (c : Nat) (l : List Sg) (w : World) (hr : SgRow w A l) (len : Nat) (hl : l.length = len) (hlen : len ≤ 140737488355328) :
 Calls Tryz.prog 34 #[lv most A len c] w fun e w' => e = .returned (.int .i64 (listE most l)) ∧ Gr w w' := by
 have HR := hiD hr
 have HL := hiD hl
 clear hr hl
 by_cases h1 : 200 < len
 ·have hv : listE most l = 2 := by have := HL.out; simp [listE]; omega
  have d1 : decide (200 < (len : Int)) = true := by simp; omega
  rw [hv]
  clear hv h1
  go_enter Tryz.func34, Tryz.ntmps34
  exact tZ73
 have d1 : decide (200 < (len : Int)) = false := by simp; omega
 have hv1 : listE most l = if most < 1 ∨ 9 < most then 13 else signsE most [] l := by have := HL.out; unfold listE; rw [if_neg (by omega)]
 by_cases h2 : most < 1
 ·have hv : listE most l = 13 := by rw [hv1, if_pos (.inl h2)]
  have d2 : decide (most < 1) = true := by simp; omega
  rw [hv]
  clear hv hv1 h2
  go_enter Tryz.func34, Tryz.ntmps34
  exact tZ73
 have d2 : decide (most < 1) = false := by simp; omega
 by_cases h3 : 9 < most
 ·have hv : listE most l = 13 := by rw [hv1, if_pos (.inr h3)]
  have d3 : decide (9 < most) = true := by simp; omega
  rw [hv]
  clear hv hv1 h2 h3
  go_enter Tryz.func34, Tryz.ntmps34
  exact tZ73
 have d3 : decide (9 < most) = false := by simp; omega
 have hv : listE most l = signsE most [] l := by rw [hv1, if_neg (by omega)]
 rw [hv]
 clear hv hv1
 have hlen2 : len ≤ 200 := by omega
 clear h1 h2 h3
 go_enter Tryz.func34, Tryz.ntmps34
 go_upto_region 6 with fail
 have hsm : SeenM ((w.alloc (.cells #[.int .i64 most, .slice A len c] 24)).alloc (.map #[] 0)) (w.heap.size + 1) [] := by
  have := seen_made (w.alloc (.cells #[.int .i64 most, .slice A len c] 24))
  simpa using this
 have g1 : Gr w ((w.alloc (.cells #[.int .i64 most, .slice A len c] 24)).alloc (.map #[] 0)) := (((Gr.refl w).alloc _).alloc _)
 have m0 : ((w.alloc (.cells #[.int .i64 most, .slice A len c] 24)).alloc (.map #[] 0)).cell? ⟨w.heap.size, 0, none⟩ = some (.int .i64 most) := by go_simp
 have m1 : ((w.alloc (.cells #[.int .i64 most, .slice A len c] 24)).alloc (.map #[] 0)).cell? ⟨w.heap.size, 1, none⟩ = some (.slice A len c) := by go_simp
 have hs : w.heap.size + 2 = ((w.alloc (.cells #[.int .i64 most, .slice A len c] 24)).alloc (.map #[] 0)).heap.size := by simp
 generalize (w.alloc (.cells #[.int .i64 most, .slice A len c] 24)).alloc (.map #[] 0) = W1 at hsm g1 m0 m1 hs ⊢
 have G1 := hiD g1
 have HS := hiD hs
 have n1 : w.heap.size < W1.heap.size := by omega
 have n2 : w.heap.size + 1 < W1.heap.size := by omega
 clear g1 hs
 go_wp2
 go_loopw [25] (fun i wr => ∃ k : Nat, i = .int .i64 k ∧ k ≤ len ∧ Hid (SeenM wr (w.heap.size + 1) ((l.take k).map Sg.code)) ∧ Hid (Upto W1 (w.heap.size + 1) wr) ∧ Hid (signsE most [] l = signsE most ((l.take k).map Sg.code) (l.drop k))) (fun i _ => len - (intOf i).toNat)
 case atStart => exact ⟨0, rfl, Nat.zero_le _, hsm, Upto.refl _ _, rfl⟩
 case round =>
  obtain ⟨k, rfl, hk, HSM, HU, HE⟩ := hrel
  by_cases hlt : k < len
  ·have hd : decide ((k : Int) < (len : Int)) = true := by simp; omega
   obtain ⟨s, hsk⟩ : ∃ s, l[k]? = some s := ⟨_, gE (by rw [HL.out]; exact hlt)⟩
   obtain ⟨blk, off, rfl, hat⟩ := HR.out.2 k s hsk
   have hblk : blk < w.heap.size := lcc w _ hat.c0
   have hup : ∀ i v, w.cell? ⟨blk, i, none⟩ = some v → wr.cell? ⟨blk, i, none⟩ = some v := fun i v h => HU.out.cell (by omega) (G1.out.cell h)
   have c0 := hup _ _ hat.c0
   have c1 := hup _ _ hat.c1
   have c2 := hup _ _ hat.c2
   have c3 := hup _ _ hat.c3
   obtain ⟨VA, vc, hc4, hvc, hvr⟩ := hat.c4
   have c4 := hup _ _ hc4
   have HV := hiD hvr
   have HSK := hiD hsk
   have sz1 : W1.heap.size ≤ wr.heap.size := HU.out.size
   have q0 : wr.cell? ⟨w.heap.size, 0, none⟩ = some (.int .i64 most) := HU.out.cell (by omega) m0
   have q1 : wr.cell? ⟨w.heap.size, 1, none⟩ = some (.slice (some ⟨blk, off, none⟩) len c) := HU.out.cell (by omega) m1
   have hdrop : l.drop k = s :: l.drop (k + 1) := by
    have hkl : k < l.length := by rw [HL.out]; exact hlt
    rw [List.drop_eq_getElem_cons hkl]
    have : l[k] = s := by have := HSK.out; rw [gE hkl] at this; exact Option.some.inj this
    rw [this]
   have HD := hiD hdrop
   have hvcode := validCode_call s.code
   have HVC := hiD hvcode
   clear hsk hat hup hc4 hvr hdrop hvcode hsm
   have hg2 : Gr W1 wr ∨ True := .inr trivial
   clear hg2
   have hSE : signsE most ((l.take k).map Sg.code) (l.drop k) = signsE most ((l.take k).map Sg.code) (s :: l.drop (k + 1)) := by rw [HD.out]
   have HSE := hiD hSE
   clear hSE
   cases hcb : codeB s.code
   ·have hv : signsE most [] l = 10 := by
     rw [HE.out, HSE.out]
     simp [signsE, hcb]
    have HVE := hiD hv
    clear hv
    go_wp2_with (go_at_call 79; refine (HVC.out _).mono ?_; rintro e w' ⟨rfl, rfl⟩; rw [hcb])
    go_ret
    exact ⟨by rw [HVE.out]; rfl, (HU.out.gr ((Gr.refl wr).alloc _)).to_gr G1.out (by omega)⟩
   ·have hs8 : s.code.size ≤ 8 := by
     unfold codeB at hcb
     simp only [Bool.and_eq_true, decide_eq_true_eq] at hcb
     exact hcb.1.1.2
    have hsm2 : SeenM (wr.alloc (.cells #[.string s.code, .int .i64 s.wide, .int .i64 s.high, .bool s.flag, .slice VA s.vals.length vc] 77)) (w.heap.size + 1) ((l.take k).map Sg.code) := HSM.out.kept (World.grownBy_alloc wr _ none) (by simp)
    have hlook := hsm2.look s.code hs8
    have HCB := hiD hcb
    obtain ⟨cnt, hcnt⟩ : ∃ cnt : Nat, cnt = ((l.take k).map Sg.code).countP fun u => decide (u.data.toList = s.code.data.toList) := ⟨_, rfl⟩
    rw [← hcnt] at hlook
    have HCNT := hiD hcnt
    clear hcnt
    rcases Nat.eq_zero_or_pos cnt with h0 | h0
    ·subst h0
     obtain ⟨w3, hrun, hsm3, hby, hdr⟩ := hsm2.add (by simp; omega) s.code hs8 HCNT.out.symm
     have HS3 := hiD hsm3
     have HBY := hiD hby
     have HDR := hiD hdr
     clear hsm3 hby hdr hcb hsm2
     go_upto_region 12 with (go_at_call 79; refine (HVC.out _).mono ?_; rintro e w' ⟨rfl, rfl⟩; rw [HCB.out])
     have ne3 : some wr.heap.size ≠ some (w.heap.size + 1) := by simp; omega
     have k1 : w3.cell? ⟨wr.heap.size, 1, none⟩ = some (.int .i64 s.wide) := HBY.out.cell (by go_simp) ne3
     have k2 : w3.cell? ⟨wr.heap.size, 2, none⟩ = some (.int .i64 s.high) := HBY.out.cell (by go_simp) ne3
     have k4 : w3.cell? ⟨wr.heap.size, 4, none⟩ = some (.slice VA s.vals.length vc) := HBY.out.cell (by go_simp) ne3
     have U3 : Upto W1 (w.heap.size + 1) w3 := by
      refine ⟨HBY.out.os.trans HU.out.os, HBY.out.tape.trans HU.out.tape, HBY.out.output.trans HU.out.output, by rw [HDR.out]; exact HU.out.drawn, Nat.le_trans HU.out.size (Nat.le_trans (by simp) HBY.out.size), fun j hj hne => ?_⟩
      exact (HBY.out.block j (by simp; omega) (by simpa using hne)).trans (((World.grownBy_alloc wr _ none).block j (by omega) (by simp)).trans (HU.out.keep j hj hne))
     have HU3 := hiD U3
     clear U3 hrun hlook c0 c1 c2 c3 c4 ne3
     have hany : (((l.take k).map Sg.code).any fun t => decide (t.data.toList = s.code.data.toList)) = false := by
      have h1 := HCNT.out
      rw [List.any_eq_false]
      intro u hu
      have := List.countP_eq_zero.1 h1.symm u hu
      simpa using this
     have HANY := hiD hany
     clear hany
     by_cases b1 : s.wide < 1
     ·have hv : signsE most [] l = 11 := by
       exact tZ22
      have HVE := hiD hv
      have e1 : decide (s.wide < 1) = true := by simp; omega
      clear hv b1
      exact tZ39
     have e1 : decide (s.wide < 1) = false := by simp; omega
     by_cases b2 : 12 < s.wide
     ·have hv : signsE most [] l = 11 := by
       exact tZ22
      have HVE := hiD hv
      have e2 : decide (12 < s.wide) = true := by simp; omega
      clear hv b2
      exact tZ39
     have e2 : decide (12 < s.wide) = false := by simp; omega
     by_cases b3 : s.high < 1
     ·have hv : signsE most [] l = 11 := by
       exact tZ22
      have HVE := hiD hv
      have e3 : decide (s.high < 1) = true := by simp; omega
      clear hv b3
      exact tZ39
     have e3 : decide (s.high < 1) = false := by simp; omega
     by_cases b4 : 12 < s.high
     ·have hv : signsE most [] l = 11 := by
       exact tZ22
      have HVE := hiD hv
      have e4 : decide (12 < s.high) = true := by simp; omega
      clear hv b4
      exact tZ39
     have e4 : decide (12 < s.high) = false := by simp; omega
     have hsz : sizeBad s = false := by simp [sizeBad]; omega
     have HSZ := hiD hsz
     clear hsz b1 b2 b3 b4
     by_cases b5 : 12 < s.vals.length
     ·have hv : signsE most [] l = 2 := by
       exact tZ103
      have HVE := hiD hv
      have e5 : decide (12 < (s.vals.length : Int)) = true := by simp; omega
      clear hv b5
      exact tZ39
     have e5 : decide (12 < (s.vals.length : Int)) = false := by simp; omega
     have hv : signsE most [] l = if valsE most [] s.vals = 0 then signsE most ((l.take k).map Sg.code ++ [s.code]) (l.drop (k + 1)) else valsE most [] s.vals := by
      exact tZ103
     have HVE := hiD hv
     obtain ⟨vn, hvn⟩ : ∃ vn, vn = s.vals.length := ⟨_, rfl⟩
     rw [← hvn] at k4 e5 hvc
     have HVN := hiD hvn
     have b6 : vn ≤ 12 := by omega
     clear hv b5 hvn
     go_wp2_with fail
     have hw0 : ∀ n, n < w.heap.size → w3.heap[n]? = w.heap[n]? := fun n hn => (HU3.out.keep n (by omega) (by omega)).trans (G1.out.b.block n hn)
     have g3 : Gr w w3 := HU3.out.to_gr G1.out (by omega)
     have G3 := hiD g3
     have q3 : w3.cell? ⟨w.heap.size, 0, none⟩ = some (.int .i64 most) := HU3.out.cell (by omega) m0
     have q4 : w3.cell? ⟨w.heap.size, 1, none⟩ = some (.slice (some ⟨blk, off, none⟩) len c) := HU3.out.cell (by omega) m1
     have nn1 : w.heap.size < w3.heap.size := by have := HU3.out.size; omega
     have nn2 : wr.heap.size < w3.heap.size := lcc w3 _ k1
     clear hw0 g3 q0 q1 k1 k2
     obtain ⟨wo, rfl⟩ : ∃ wo, wo = wr := ⟨wr, rfl⟩
     go_loopw [70] (fun i wr => ∃ j : Nat, i = .int .i64 j ∧ j ≤ vn ∧ Gr w3 wr ∧ Hid (valsE most [] s.vals = valsE most (s.vals.take j) (s.vals.drop j))) (fun i _ => vn - (intOf i).toNat)
     case atStart => exact ⟨0, rfl, Nat.zero_le _, Gr.refl _, rfl⟩
     case round =>
      obtain ⟨j, rfl, hj, hg4, HVV⟩ := hrel
      have HG4 := hiD hg4
      by_cases hjl : j < vn
      ·obtain ⟨v, hvj⟩ : ∃ v, s.vals[j]? = some v := ⟨_, gE (by rw [← HVN.out]; exact hjl)⟩
       obtain ⟨vb, vo, rfl, hva⟩ := HV.out.2 j v hvj
       have hva2 := hva.gr (G3.out.trans HG4.out)
       have c0 := hva2.c0
       have c1 := hva2.c1
       have c2 := hva2.c2
       have c3 := hva2.c3
       have HVJ := hiD hvj
       have k4' := HG4.out.cell k4
       have q3' := HG4.out.cell q3
       have q4' := HG4.out.cell q4
       have nn3 : w.heap.size < wr.heap.size := Nat.lt_of_lt_of_le nn1 HG4.out.b.size
       have nn4 : wo.heap.size < wr.heap.size := Nat.lt_of_lt_of_le nn2 HG4.out.b.size
       have nn5 : vb < wr.heap.size := lcc wr _ c0
       have hd5 : decide ((j : Int) < (vn : Int)) = true := by simp; omega
       have hck : ∀ m os, Calls Tryz.prog 80 #[lv most (some ⟨blk, off, none⟩) len c, .slice (some ⟨vb, vo, none⟩) j vc, vv v] (Sort.grow ((wr.alloc (.cells #[.int .i64 v.kind, .string v.text, .int .i64 v.mn, .int .i64 v.mx] 136)).drewN m) os) fun e w'' => e = .returned (.int .i64 (valE most (s.vals.take j) v)) ∧ ∃ p : GrownBy, w'' = Sort.grow ((wr.alloc (.cells #[.int .i64 v.kind, .string v.text, .int .i64 v.mn, .int .i64 v.mx] 136)).drewN p.n) p.os := fun m os => by
        have hgg := Gr.of_eq (w := wr.alloc (.cells #[.int .i64 v.kind, .string v.text, .int .i64 v.mn, .int .i64 v.mx] 136)) m os
        have hrow := (Row.take HV.out j)
        have hrow2 : ValRow (Sort.grow ((wr.alloc (.cells #[.int .i64 v.kind, .string v.text, .int .i64 v.mn, .int .i64 v.mx] 136)).drewN m) os) (some ⟨vb, vo, none⟩) (s.vals.take j) := ValRow.gr hrow (((G3.out.trans HG4.out).alloc _).trans hgg)
        exact Calls.grown_of ((checkValue_call most (some ⟨blk, off, none⟩) len c (some ⟨vb, vo, none⟩) vc (s.vals.take j) v _ hrow2 j (by rw [List.length_take, ← HVN.out]; omega) (by omega)).mono fun _ _ ⟨he, hg⟩ => ⟨he, hg.eq⟩)
       have HCK := hiD hck
       have hstep : valsE most [] s.vals = if valE most (s.vals.take j) v = 0 then valsE most (s.vals.take (j + 1)) (s.vals.drop (j + 1)) else valE most (s.vals.take j) v := by
        have hjv : j < s.vals.length := by rw [← HVN.out]; exact hjl
        have hvj2 : s.vals[j] = v := by have := HVJ.out; rw [gE hjv] at this; exact Option.some.inj this
        rw [HVV.out, List.drop_eq_getElem_cons hjv, hvj2, valsE, List.take_succ_eq_append_getElem hjv, hvj2]
       have HSTEP := hiD hstep
       have jvc : j ≤ vc := by omega
       have jz : (0 : Int) ≤ (j : Int) := by omega
       have jz2 : (j : Int) ≤ (vc : Int) := by omega
       have jt : ((j : Nat) : Int).toNat = j := by omega
       clear hvj hva hva2 hck hstep k4 q3 q4 hg4
       go_wp2_with fail
       refine wp_region_quiet_grown mixed (by kernel_rfl) ?_
       repeat (go_big_quiet_step ((go_at_call 80; exact HCK.out _ _)))
       refine wpQuiet_nil ?_
       rintro w' ⟨⟨nq, osq⟩, rfl⟩
       clear HCK
       obtain ⟨ve, hve⟩ : ∃ ve, ve = valE most (s.vals.take j) v := ⟨_, rfl⟩
       rw [← hve]
       have HVE2 := hiD hve
       clear hve
       have hg5 : Gr w3 (Sort.grow ((wr.alloc (.cells #[.int .i64 v.kind, .string v.text, .int .i64 v.mn, .int .i64 v.mx] 136)).drewN nq) osq) := (HG4.out.alloc _).trans (Gr.of_eq _ _)
       have HG5 := hiD hg5
       clear hg5
       by_cases hv0 : ve = 0
       ·subst hv0
        go_wp2_with fail
        go_roundw
        case rel => exact ⟨j + 1, by go_num, by omega, HG5.out, by show valsE most [] s.vals = _; rw [HSTEP.out, if_pos HVE2.out.symm]⟩
        case measure => simp [intOf]; omega
       ·have hne : (ve == 0) = false := by simpa using hv0
        have hE : signsE most [] l = ve := by
         have h5 : ¬ valsE most [] s.vals = 0 := by rw [HSTEP.out, if_neg (by rw [← HVE2.out]; exact hv0), ← HVE2.out]; exact hv0
         rw [HVE.out, if_neg h5, HSTEP.out, if_neg (by rw [← HVE2.out]; exact hv0), ← HVE2.out]
        have HE2 := hiD hE
        clear hE
        go_wp2_with fail
        go_ret
        exact ⟨by rw [HE2.out]; rfl, G3.out.trans HG5.out⟩
      ·obtain rfl : j = vn := by omega
       have hd5 : decide ((j : Int) < (j : Int)) = false := by simp
       have hv0 : valsE most [] s.vals = 0 := by
        rw [HVV.out, List.drop_eq_nil_of_le (by rw [HVN.out]; exact Nat.le_refl _)]
        rfl
       have HV0 := hiD hv0
       clear hv0 hg4
       go_wp2_with fail
       go_roundw
       case rel =>
        have htk : (l.take (k + 1)).map Sg.code = (l.take k).map Sg.code ++ [s.code] := by
         rw [List.take_succ_eq_append_getElem (by rw [HL.out]; exact hlt), List.map_append]
         have : l[k]'(by rw [HL.out]; exact hlt) = s := by have := HSK.out; rw [gE (by rw [HL.out]; exact hlt)] at this; exact Option.some.inj this
         rw [this]
         rfl
        refine ⟨k + 1, by go_num, by omega, ?_, HU3.out.gr HG4.out, ?_⟩
        ·rw [htk]
         exact HS3.out.kept HG4.out.by (by simp)
        ·show _ = _
         rw [htk, HVE.out, if_pos HV0.out]
       case measure => simp [intOf]; omega
    ·have hv : signsE most [] l = 10 := by
      rw [HE.out, HSE.out]
      have : (((l.take k).map Sg.code).any fun t => decide (t.data.toList = s.code.data.toList)) = true := by
       have h1 := HCNT.out
       rw [h1] at h0
       obtain ⟨u, hu, hp⟩ := List.countP_pos_iff.1 h0
       exact List.any_eq_true.2 ⟨u, hu, hp⟩
      simp only [signsE, this, Bool.or_true, if_true]
     have HVE := hiD hv
     have dc : decide (0 < (cnt : Int)) = true := by simp; omega
     have dcn : (0 < cnt) = True := by simp; omega
     clear hv h0 hcb
     go_wp2_with (go_at_call 79; refine (HVC.out _).mono ?_; rintro e w' ⟨rfl, rfl⟩; rw [HCB.out])
     go_ret
     exact ⟨by rw [HVE.out]; rfl, (HU.out.gr ((Gr.refl wr).alloc _)).to_gr G1.out (by omega)⟩
  ·obtain rfl : k = len := by omega
   have hd : decide ((k : Int) < (k : Int)) = false := by simp
   go_wp2_with fail
   go_ret
   have hE : signsE most [] l = 0 := by
    rw [HE.out, List.drop_eq_nil_of_le (by rw [HL.out]; exact Nat.le_refl _)]
    rfl
   exact ⟨by rw [hE]; rfl, HU.out.to_gr G1.out (by omega)⟩
end Go.Proofs.OGW
