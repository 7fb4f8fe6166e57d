import Derived.Test.YtmejcmollpbcfaaGreatP13
import Derived.Test.YtmejcmollpbcfaaGreatP14
set_option linter.all false
namespace Go.Proofs.OGW
open Go.RowKit Go.Sort OG Go.Shelf
attribute [local go_sem] sA fv sB sG sC Nat.zero_add
attribute [local go_sem ↓] ld66 ld51 st66 st51
def BigPost (w : World) (len : Nat) (e : Ending) (w' : World) : Prop := ∃ b : Bool, e = .returned (.bool b) ∧ Gr w w' ∧ (b = false → len ≤ 210)
set_option maxRecDepth 100000 in
set_option maxHeartbeats 4000000 in
theorem big1_call (most : Int) (A : Option Addr) (len c : Nat) (l : List Sg) (w : World) (hr : SgRow w A l) (hl : l.length = len) (hlen : len ≤ 140737488355328) :
 Calls Tryz.prog 32 #[lv most A len c] w (BigPost w len) := by
 have HR := hiD hr
 have HL := hiD hl
 clear hr hl
 by_cases hb : 210 < len
 ·have d0 : decide ((210 : Int) < (len : Int)) = true := by simp; omega
  go_enter Tryz.func32, Tryz.ntmps32
  go_wp2_with fail
  go_ret
  exact ⟨true, rfl, gw, fun h => by cases h⟩
 ·have d0 : decide ((210 : Int) < (len : Int)) = false := by simp; omega
  have hb2 : len ≤ 210 := by omega
  go_enter Tryz.func32, Tryz.ntmps32
  go_upto_region 4 with fail
  have m0 : (w.alloc (.cells #[.int .i64 most, .slice A len c] 24)).cell? ⟨w.heap.size, 1, none⟩ = some (.slice A len c) := by go_simp
  have g1 : Gr w (w.alloc (.cells #[.int .i64 most, .slice A len c] 24)) := (Gr.refl w).alloc _
  generalize w.alloc (.cells #[.int .i64 most, .slice A len c] 24) = w1 at m0 g1 ⊢
  have M0 := hiD m0
  have G1 := hiD g1
  clear m0 g1 hb d0
  go_loopw [3] (fun x wr => ∃ q : Nat, x = .int .i64 (q : Int) ∧ q ≤ len ∧ Hid (Gr w1 wr)) (fun x _ => len - (intOf x).toNat)
  case atStart => exact ⟨0, rfl, Nat.zero_le _, Gr.refl _⟩
  case round =>
   obtain ⟨q, rfl, hq, HG⟩ := hrel
   have c0 := HG.out.cell M0.out
   have n0 := lcc wr _ c0
   by_cases hlt : q < len
   ·have d1 : decide ((q : Int) < (len : Int)) = true := by simp; omega
    have tq : ((q : Nat) : Int).toNat = q := by omega
    obtain ⟨s, hs⟩ : ∃ s, l[q]? = some s := ⟨_, gE (by rw [HL.out]; exact hlt)⟩
    obtain ⟨blk, off, rfl, hat⟩ := (HR.out.gr (G1.out.trans HG.out)).2 q s hs
    have s0 := hat.c0
    obtain ⟨VA, vc, s4, hvc, hvr⟩ := hat.c4
    have nb := lcc wr _ s0
    have HVR := hiD hvr
    obtain ⟨vn, hvn⟩ : ∃ vn, vn = s.vals.length := ⟨_, rfl⟩
    rw [← hvn] at s4
    have HVN := hiD hvn
    clear hs hat hvc hvr hvn
    by_cases hv : 20 < vn
    ·have d2 : decide ((20 : Int) < (vn : Int)) = true := by simp; omega
     go_wp2_with fail
     go_ret
     exact ⟨true, rfl, G1.out.trans HG.out, fun h => by cases h⟩
    ·have d2 : decide ((20 : Int) < (vn : Int)) = false := by simp; omega
     by_cases hc : 100 < s.code.size
     ·have d3 : decide ((100 : Int) < (s.code.size : Int)) = true := by simp; omega
      go_wp2_with fail
      go_ret
      exact ⟨true, rfl, G1.out.trans HG.out, fun h => by cases h⟩
     ·have d3 : decide ((100 : Int) < (s.code.size : Int)) = false := by simp; omega
      go_upto_region 9 with fail
      obtain ⟨wo, hwo⟩ : ∃ wo, wo = wr := ⟨wr, rfl⟩
      rw [← hwo] at HG HVR c0 s4 s0 ⊢
      have C0 := hiD c0
      have S4 := hiD s4
      clear hwo c0 s4 s0 n0 nb
      go_loopw [4] (fun x wr => ∃ j : Nat, x = .int .i64 (j : Int) ∧ j ≤ vn ∧ Hid (Gr wo wr)) (fun x _ => vn - (intOf x).toNat)
      case atStart => exact ⟨0, rfl, Nat.zero_le _, Gr.refl _⟩
      case round =>
       obtain ⟨j, rfl, hj, HG2⟩ := hrel
       have c0 := HG2.out.cell C0.out
       have n0 := lcc wr _ c0
       have s4 := HG2.out.cell S4.out
       have nb := lcc wr _ s4
       by_cases hjl : j < vn
       ·have d4 : decide ((j : Int) < (vn : Int)) = true := by simp; omega
        have tj : ((j : Nat) : Int).toNat = j := by omega
        obtain ⟨u, hu⟩ : ∃ u, s.vals[j]? = some u := ⟨_, gE (by rw [← HVN.out]; exact hjl)⟩
        obtain ⟨vb, vo, rfl, hua⟩ := (HVR.out.gr HG2.out).2 j u hu
        have u1 := hua.c1
        have nu := lcc wr _ u1
        clear hu hua
        by_cases hx : 100 < u.text.size
        ·have d5 : decide ((100 : Int) < (u.text.size : Int)) = true := by simp; omega
         go_wp2_with fail
         go_ret
         exact ⟨true, rfl, G1.out.trans (HG.out.trans HG2.out), fun h => by cases h⟩
        ·have d5 : decide ((100 : Int) < (u.text.size : Int)) = false := by simp; omega
         go_wp2_with fail
         go_roundw
         case rel => exact ⟨j + 1, by go_num, by omega, HG2.out⟩
         case measure => simp [intOf]; omega
       ·obtain rfl : j = vn := by omega
        have d4 : decide ((j : Int) < (j : Int)) = false := by simp
        go_wp2_with fail
        go_roundw
        case rel => exact ⟨q + 1, by go_num, by omega, HG.out.trans HG2.out⟩
        case measure => simp [intOf]; omega
   ·obtain rfl : q = len := by omega
    have d1 : decide ((q : Int) < (q : Int)) = false := by simp
    go_wp2_with fail
    go_ret
    exact ⟨false, rfl, G1.out.trans HG.out, fun _ => hb2⟩
end Go.Proofs.OGW
namespace Go.Proofs.OGW
open Go.RowKit Go.Sort OG Go.Shelf Go.PlainAid
attribute [local go_sem] sA fv sB sG sC Nat.zero_add
attribute [local go_sem ↓] ld66 ld51 st66 st51
def idxC (t : ByteArray) (l : List Sg) : Int := match l.findIdx? (fun s => s.code.toList == t.toList) with | some i => i | none => -1
set_option maxHeartbeats 1000000 in
theorem idxCode_call (most : Int) (A : Option Addr) (c : Nat) (l : List Sg) (t : ByteArray) (w : World) (hr : SgRow w A l) (len : Nat) (hl : l.length = len) (hlen : len ≤ 1000000) :
 Calls Tryz.prog 112 #[lv most A len c, .string t] w fun e w' => e = .returned (.int .i64 (idxC t l)) ∧ Gr w w' := by
 have HR := hiD hr
 have HL := hiD hl
 clear hr hl
 go_enter Tryz.func112, Tryz.ntmps112
 go_upto_region 1 with fail
 have g1 : Gr w (w.alloc (.cells #[.int .i64 most, .slice A len c] 24)) := (Gr.refl w).alloc _
 have m1 : (w.alloc (.cells #[.int .i64 most, .slice A len c] 24)).cell? ⟨w.heap.size, 1, none⟩ = some (.slice A len c) := by go_simp
 generalize w.alloc (.cells #[.int .i64 most, .slice A len c] 24) = W1 at g1 m1 ⊢
 have G1 := hiD g1
 clear g1
 go_wp2
 go_loopw [5] (fun i wr => ∃ k : Nat, i = .int .i64 k ∧ k ≤ len ∧ Gr W1 wr ∧ Hid (∀ j s, j < k → l[j]? = some s → (s.code.toList == t.toList) = false)) (fun i _ => len - (intOf i).toNat)
 case atStart => exact ⟨0, rfl, Nat.zero_le _, Gr.refl _, fun j x hj => by omega⟩
 case round =>
  obtain ⟨k, rfl, hk, hg, HN⟩ := hrel
  have HG := hiD hg
  have m1' := hg.cell m1
  clear hg m1
  by_cases hlt : k < len
  ·obtain ⟨s, hs⟩ : ∃ s, l[k]? = some s := ⟨_, gE (by rw [HL.out]; exact hlt)⟩
   obtain ⟨blk, off, rfl, hb⟩ := HR.out.2 k s hs
   have c0 := (hb.gr (G1.out.trans HG.out)).c0
   have HS := hiD hs
   have hd : decide ((k : Int) < (len : Int)) = true := by simp; omega
   clear hs hb
   cases hp : (s.code.toList == t.toList)
   ·go_wp2_with fail
    go_roundw
    case rel =>
     refine ⟨k + 1, by go_num, by omega, HG.out, fun j y hj hy => ?_⟩
     rcases Nat.lt_or_ge j k with h | h
     ·exact HN.out j y h hy
     ·obtain rfl : j = k := by omega
      rw [HS.out] at hy
      obtain rfl := Option.some.inj hy
      exact hp
    case measure => simp [intOf]; omega
   ·go_wp2_with fail
    go_ret
    refine ⟨?_, G1.out.trans HG.out⟩
    have hf : l.findIdx? (fun s => s.code.toList == t.toList) = some k := by
     have hkl : k < l.length := by rw [HL.out]; exact hlt
     have hxk : l[k] = s := by have := HS.out; rw [gE hkl] at this; exact Option.some.inj this
     refine List.findIdx?_eq_some_iff_getElem.2 ⟨hkl, by rw [hxk]; exact hp, fun j hj => ?_⟩
     have := HN.out j (l[j]'(by omega)) hj (gE _)
     simp only [this]; decide
    simp [idxC, hf]
  ·obtain rfl : k = len := by omega
   have hd : decide ((k : Int) < (k : Int)) = false := by simp
   go_wp2_with fail
   go_ret
   refine ⟨?_, G1.out.trans HG.out⟩
   have hf : l.findIdx? (fun s => s.code.toList == t.toList) = none := List.findIdx?_eq_none_iff.2 fun x hx => by
    exact tZ66
   simp [idxC, hf]
theorem meetB_comm (a b : Val) : meetB a b = meetB b a := by
 unfold meetB
 rw [Bool.eq_iff_iff]
 simp only [Bool.and_eq_true, decide_eq_true_eq]
 constructor <;> rintro ⟨⟨⟨h1, h2⟩, h3⟩, h4⟩ <;> exact ⟨⟨⟨h1.symm, h2.symm⟩, h4⟩, h3⟩
def signE (most : Int) (s : Sg) : Int := if sizeBad s then 11 else if 12 < s.vals.length then 2 else valsE most [] s.vals
theorem vals_step {most : Int} {vs : List Val} {j : Nat} {v : Val} (hv : vs[j]? = some v) : valsE most (vs.take j) (vs.drop j) = if valE most (vs.take j) v = 0 then valsE most (vs.take (j + 1)) (vs.drop (j + 1)) else valE most (vs.take j) v := by
 have hj : j < vs.length := (gO hv).1
 have he : vs[j] = v := (gO hv).2
 rw [List.drop_eq_getElem_cons hj, he, valsE, List.take_succ_eq_append_getElem hj, he]
abbrev sgv (s : Sg) (VA : Option Addr) (vn vc : Nat) : Value := .agg #[.string s.code, .int .i64 s.wide, .int .i64 s.high, .bool s.flag, .slice VA vn vc]
theorem tZ64 {P : Prop} (h : P := by
 go_ret
 exact ⟨by rw [HV2.out]; rfl, G1.out.trans (HG4.out.trans gw)⟩) : P := h
theorem tZ38 {P : Prop} (h : P := by
 go_wp2_with (go_at_call 159; refine (HT.out _).mono ?_; rintro e w' ⟨rfl, rfl⟩; rw [E3.out])
 exact tZ64) : P := h
theorem tZ75 {P : Prop} (h : P := by
 have h1 : sizeBad s = true := by simp [sizeBad]; omega
 simp [signE, h1]) : P := h
theorem tZ87 {P : Prop} (h : P := by
 go_enter Tryz.func113, Tryz.ntmps113
 exact tZ43) : P := h
set_option maxRecDepth 100000 in
set_option maxHeartbeats 4000000 in
theorem sign_call (most : Int) (s : Sg) (VA : Option Addr) (vc : Nat) (w : World) (hr : ValRow w VA s.vals) (vn : Nat) (hvn : s.vals.length = vn) (hvc : vn ≤ vc) :
 Calls Tryz.prog 113 #[sgv s VA vn vc, .int .i64 most] w fun e w' => e = .returned (.int .i64 (signE most s)) ∧ Gr w w' := by
 have HR := hiD hr
 have HL := hiD hvn
 clear hr hvn
 by_cases b1 : s.wide < 1
 ·have hv : signE most s = 11 := by
   exact tZ75
  have e1 : decide (s.wide < 1) = true := by simp; omega
  rw [hv]
  clear hv b1
  exact tZ87
 have e1 : decide (s.wide < 1) = false := by simp; omega
 by_cases b2 : 12 < s.wide
 ·have hv : signE most s = 11 := by
   exact tZ75
  have e2 : decide (12 < s.wide) = true := by simp; omega
  rw [hv]
  clear hv b1 b2
  exact tZ87
 have e2 : decide (12 < s.wide) = false := by simp; omega
 by_cases b3 : s.high < 1
 ·have hv : signE most s = 11 := by
   exact tZ75
  have e3 : decide (s.high < 1) = true := by simp; omega
  rw [hv]
  clear hv b1 b2 b3
  exact tZ87
 have e3 : decide (s.high < 1) = false := by simp; omega
 by_cases b4 : 12 < s.high
 ·have hv : signE most s = 11 := by
   exact tZ75
  have e4 : decide (12 < s.high) = true := by simp; omega
  rw [hv]
  clear hv b1 b2 b3 b4
  exact tZ87
 have e4 : decide (12 < s.high) = false := by simp; omega
 have hsz : sizeBad s = false := by simp [sizeBad]; omega
 clear b1 b2 b3 b4
 by_cases b5 : 12 < vn
 ·have hv : signE most s = 2 := by simp [signE, hsz, HL.out, b5]
  have e5 : decide (12 < (vn : Int)) = true := by simp; omega
  rw [hv]
  clear hv b5 hsz
  exact tZ87
 have e5 : decide (12 < (vn : Int)) = false := by simp; omega
 have hv : signE most s = valsE most [] s.vals := by simp [signE, hsz, HL.out, b5]
 rw [hv]
 have b6 : vn ≤ 12 := by omega
 clear hv b5 hsz
 go_enter Tryz.func113, Tryz.ntmps113
 go_upto_region 5 with fail
 have g1 : Gr w (w.alloc (.cells #[.string s.code, .int .i64 s.wide, .int .i64 s.high, .bool s.flag, .slice VA vn vc] 77)) := (Gr.refl w).alloc _
 have m4 : (w.alloc (.cells #[.string s.code, .int .i64 s.wide, .int .i64 s.high, .bool s.flag, .slice VA vn vc] 77)).cell? ⟨w.heap.size, 4, none⟩ = some (.slice VA vn vc) := by go_simp
 generalize w.alloc (.cells #[.string s.code, .int .i64 s.wide, .int .i64 s.high, .bool s.flag, .slice VA vn vc] 77) = W1 at g1 m4 ⊢
 have G1 := hiD g1
 have M4 := hiD m4
 clear g1 m4 e1 e2 e3 e4
 go_wp2
 go_loopw [5] (fun i wr => ∃ j : Nat, i = .int .i64 j ∧ j ≤ vn ∧ Gr W1 wr ∧ Hid (valsE most [] s.vals = valsE most (s.vals.take j) (s.vals.drop j))) (fun i _ => vn - (intOf i).toNat)
 case atStart => exact ⟨0, rfl, Nat.zero_le _, Gr.refl _, rfl⟩
 case round =>
  obtain ⟨j, rfl, hj, hg4, HVV⟩ := hrel
  have HG4 := hiD hg4
  have k4 := hg4.cell M4.out
  have nn := lcc wr _ k4
  clear hg4
  by_cases hjl : j < vn
  ·obtain ⟨v, hvj⟩ : ∃ v, s.vals[j]? = some v := ⟨_, gE (by rw [HL.out]; exact hjl)⟩
   obtain ⟨vb, vo, rfl, hva⟩ := HR.out.2 j v hvj
   have hva2 := hva.gr (G1.out.trans HG4.out)
   have c0 := hva2.c0
   have c1 := hva2.c1
   have c2 := hva2.c2
   have c3 := hva2.c3
   have HVJ := hiD hvj
   have HST := hiD (vals_step (most := most) hvj)
   have hd5 : decide ((j : Int) < (vn : Int)) = true := by simp; omega
   have hvb : vb < wr.heap.size := lcc wr _ c0
   have HT := hiD (right_call v.kind v.text)
   clear hvj hva hva2
   by_cases h1 : v.kind < 1
   ·have hv : valE most (s.vals.take j) v = 12 := by
     have : decide (1 ≤ v.kind) = false := by simp; omega
     simp [valE, this]
    have d1 : decide (v.kind < 1) = true := by simp; omega
    have hv2 : valsE most [] s.vals = 12 := by rw [HVV.out, HST.out, hv]; rfl
    have HV2 := hiD hv2
    clear hv hv2 h1
    go_wp2_with fail
    exact tZ64
   have d1 : decide (v.kind < 1) = false := by simp; omega
   by_cases h2 : 3 < v.kind
   ·have hv : valE most (s.vals.take j) v = 12 := by
     have : decide (v.kind ≤ 3) = false := by simp; omega
     simp [valE, this]
    have d2 : decide (3 < v.kind) = true := by simp; omega
    have hv2 : valsE most [] s.vals = 12 := by rw [HVV.out, HST.out, hv]; rfl
    have HV2 := hiD hv2
    clear hv hv2 h1 h2
    go_wp2_with fail
    exact tZ64
   have d2 : decide (3 < v.kind) = false := by simp; omega
   have E1 := hiD (show decide (1 ≤ v.kind) = true by simp; omega)
   have E2 := hiD (show decide (v.kind ≤ 3) = true by simp; omega)
   clear h1 h2
   cases h3 : textB v.kind v.text
   ·have hv : valE most (s.vals.take j) v = 12 := by simp [valE, h3]
    have hv2 : valsE most [] s.vals = 12 := by rw [HVV.out, HST.out, hv]; rfl
    have HV2 := hiD hv2
    clear hv hv2
    go_wp2_with (go_at_call 159; refine (HT.out _).mono ?_; rintro e w' ⟨rfl, rfl⟩; rw [h3])
    exact tZ64
   have E3 := hiD h3
   by_cases h4 : v.mn < 1
   ·have hv : valE most (s.vals.take j) v = 13 := by
     have : decide (1 ≤ v.mn) = false := by simp; omega
     exact tZ94
    have d4 : decide (v.mn < 1) = true := by simp; omega
    have hv2 : valsE most [] s.vals = 13 := by rw [HVV.out, HST.out, hv]; rfl
    have HV2 := hiD hv2
    clear hv hv2 h4 h3
    exact tZ38
   have d4 : decide (v.mn < 1) = false := by simp; omega
   have E4 := hiD (show decide (1 ≤ v.mn) = true by simp; omega)
   clear h4
   by_cases h5 : v.mx < v.mn
   ·have hv : valE most (s.vals.take j) v = 13 := by
     have : decide (v.mn ≤ v.mx) = false := by simp; omega
     exact tZ94
    have d5 : decide (v.mx < v.mn) = true := by simp; omega
    have hv2 : valsE most [] s.vals = 13 := by rw [HVV.out, HST.out, hv]; rfl
    have HV2 := hiD hv2
    clear hv hv2 h5 h3
    exact tZ38
   have d5 : decide (v.mx < v.mn) = false := by simp; omega
   have E5 := hiD (show decide (v.mn ≤ v.mx) = true by simp; omega)
   clear h5
   by_cases h6 : most < v.mx
   ·have hv : valE most (s.vals.take j) v = 13 := by
     have : decide (v.mx ≤ most) = false := by simp; omega
     exact tZ94
    have d6 : decide (most < v.mx) = true := by simp; omega
    have hv2 : valsE most [] s.vals = 13 := by rw [HVV.out, HST.out, hv]; rfl
    have HV2 := hiD hv2
    clear hv hv2 h6 h3
    exact tZ38
   have d6 : decide (most < v.mx) = false := by simp; omega
   have E6 := hiD (show decide (v.mx ≤ most) = true by simp; omega)
   clear h6 h3
   have hv : valE most (s.vals.take j) v = if (s.vals.take j).any (meetB v) then 12 else 0 := by
    simp [valE, E1.out, E2.out, E3.out, E4.out, E5.out, E6.out]
   have HVE := hiD hv
   clear hv
   go_upto_region 13 with (go_at_call 159; refine (HT.out _).mono ?_; rintro e w' ⟨rfl, rfl⟩; rw [E3.out])
   clear d1 d2 d4 d5 d6
   have g5 : Gr W1 (wr.alloc (.cells #[.int .i64 v.kind, .string v.text, .int .i64 v.mn, .int .i64 v.mx] 136)) := HG4.out.alloc _
   have p0 : ValAt (wr.alloc (.cells #[.int .i64 v.kind, .string v.text, .int .i64 v.mn, .int .i64 v.mx] 136)) wr.heap.size 0 v := ⟨by go_simp, by go_simp, by go_simp, by go_simp⟩
   have p1 : (wr.alloc (.cells #[.int .i64 v.kind, .string v.text, .int .i64 v.mn, .int .i64 v.mx] 136)).heap.size = wr.heap.size + 1 := by simp
   obtain ⟨pb, hpb⟩ : ∃ pb, pb = wr.heap.size := ⟨_, rfl⟩
   rw [← hpb] at p0 p1 ⊢
   generalize wr.alloc (.cells #[.int .i64 v.kind, .string v.text, .int .i64 v.mn, .int .i64 v.mx] 136) = W2 at g5 p0 p1 ⊢
   have G5 := hiD g5
   have P0 := hiD p0
   have k5 := g5.cell M4.out
   clear g5 p0 p1 hpb k4 nn c0 c1 c2 c3 hvb
   go_wp2
   obtain ⟨wo, rfl⟩ : ∃ wo, wo = wr := ⟨wr, rfl⟩
   go_loopw [7] (fun i wr => ∃ k : Nat, i = .int .i64 k ∧ k ≤ j ∧ Gr W2 wr ∧ Hid (∀ m x, m < k → s.vals[m]? = some x → meetB x v = false)) (fun i _ => j - (intOf i).toNat)
   case atStart => exact ⟨0, rfl, Nat.zero_le _, Gr.refl _, fun m x hm => by omega⟩
   case round =>
    obtain ⟨k, rfl, hk, hg6, HN⟩ := hrel
    have HG6 := hiD hg6
    have k6 := hg6.cell k5
    have nn := lcc wr _ k6
    have q := ValAt.gr hg6 P0.out
    have q0 := q.c0
    have q1 := q.c1
    have q2 := q.c2
    have q3 := q.c3
    simp only [Nat.zero_add] at q1 q2 q3
    have nq := lcc wr _ q0
    clear hg6 q k5
    by_cases hkj : k < j
    ·obtain ⟨x, hx⟩ : ∃ x, s.vals[k]? = some x := ⟨_, gE (by rw [HL.out]; omega)⟩
     obtain ⟨xb, xo, ee, hxa⟩ := HR.out.2 k x hx
     obtain ⟨rfl, rfl⟩ : vb = xb ∧ vo = xo := by cases ee; exact ⟨rfl, rfl⟩
     clear ee
     have hxa2 := hxa.gr (G1.out.trans (G5.out.trans HG6.out))
     have c0 := hxa2.c0
     have c1 := hxa2.c1
     have c2 := hxa2.c2
     have c3 := hxa2.c3
     have hvb : vb < wr.heap.size := lcc wr _ c0
     have HX := hiD hx
     have hd6 : decide ((k : Int) < (j : Int)) = true := by simp; omega
     have hkv : k < vn := by omega
     have hcl : Ans 160 #[vv x, vv v] (.bool (meetB x v)) := fun w => collide_call x v w
     have HCL := hiD hcl
     clear hx hxa hxa2 hcl
     cases hm : meetB x v
     ·rw [hm] at HCL
      have HM := hiD hm
      clear hm
      go_wp2_with fail
      refine wp_region_quiet_grown mixed (by kernel_rfl) ?_
      repeat (go_big_quiet_step ((go_at_call 160; exact HCL.out.quiet)))
      refine wpQuiet_nil ?_
      rintro w' ⟨⟨nq, osq⟩, rfl⟩
      go_wp2
      go_roundw
      case rel =>
       refine ⟨k + 1, by go_num, by omega, HG6.out.trans (Gr.of_eq _ _), fun m y hm hy => ?_⟩
       rcases Nat.lt_or_ge m k with h | h
       ·exact HN.out m y h hy
       ·obtain rfl : m = k := by omega
        rw [HX.out] at hy
        obtain rfl := Option.some.inj hy
        exact HM.out
      case measure => simp [intOf]; omega
     ·rw [hm] at HCL
      have hv : valsE most [] s.vals = 12 := by
       have hany : (s.vals.take j).any (meetB v) = true := by
        refine List.any_eq_true.2 ⟨x, ?_, by rw [meetB_comm]; exact hm⟩
        have hkl := (gO HX.out)
        obtain ⟨h1, h2⟩ := hkl
        rw [← h2]
        rw [List.mem_take_iff_getElem]
        exact ⟨k, by omega, rfl⟩
       rw [HVV.out, HST.out, HVE.out, hany]; rfl
      have HV := hiD hv
      clear hm hv
      go_wp2_with fail
      refine wp_region_quiet_grown mixed (by kernel_rfl) ?_
      repeat (go_big_quiet_step ((go_at_call 160; exact HCL.out.quiet)))
      refine wpQuiet_nil ?_
      rintro w' ⟨⟨nq, osq⟩, rfl⟩
      go_wp2
      go_ret
      exact ⟨by rw [HV.out]; rfl, G1.out.trans (G5.out.trans (HG6.out.trans (Gr.of_eq _ _)))⟩
    ·obtain rfl : k = j := by omega
     have hd6 : decide ((k : Int) < (k : Int)) = false := by simp
     have hany : (s.vals.take k).any (meetB v) = false := by
      rw [List.any_eq_false]
      intro x hx
      rw [List.mem_take_iff_getElem] at hx
      obtain ⟨m, hm, rfl⟩ := hx
      have := HN.out m s.vals[m] (by omega) (gE _)
      rw [meetB_comm, this]; decide
     have hv : valsE most [] s.vals = valsE most (s.vals.take (k + 1)) (s.vals.drop (k + 1)) := by rw [HVV.out, HST.out, HVE.out, hany]; rfl
     have HV := hiD hv
     clear hv hany
     go_wp2_with fail
     go_roundw
     case rel => exact ⟨k + 1, by go_num, by omega, G5.out.trans HG6.out, HV.out⟩
     case measure => simp [intOf]; omega
  ·obtain rfl : j = vn := by omega
   have hd5 : decide ((j : Int) < (j : Int)) = false := by simp
   have hv : valsE most [] s.vals = 0 := by
    rw [HVV.out, List.drop_eq_nil_of_le (by rw [HL.out]; exact Nat.le_refl _)]
    rfl
   have HV := hiD hv
   clear hv
   go_wp2_with fail
   go_ret
   exact ⟨by rw [HV.out]; rfl, G1.out.trans HG4.out⟩
end Go.Proofs.OGW
namespace Go.Proofs.OGW
open Go.RowKit Go.Sort OG Go.Shelf
attribute [local go_sem] sA fv sB sG eqlR neqR eqlP neqP guard66' sC Nat.zero_add
attribute [local go_sem ↓] ld66 ld51 st66 st51 eq66 ne66
structure Pr (w0 : World) (g : FuncId) (lb : Array Value) (S : PB → Prop) (p : PB → Bool) : Prop where
 ent : ∀ args w, (callFunc g args).run Tryz.prog w = .ok (.enter g args) w
 call : ∀ x w, S x → Gr w0 w → Calls Tryz.prog g (#[pv x] ++ lb) w fun e w' => e = .returned (.bool (p x)) ∧ Gr w w'
def idxI (p : PB → Bool) (xs : List PB) : Int := match xs.findIdx? p with | some i => i | none => -1
theorem idxI_nn (p : PB → Bool) (xs : List PB) : decide (0 ≤ idxI p xs) = xs.any p := by
 unfold idxI
 exact tZ37
set_option maxHeartbeats 1000000 in
theorem index_call (w0 : World) (g : FuncId) (lb : Array Value) (S : PB → Prop) (p : PB → Bool) (hP : Pr w0 g lb S p) (A : Option Addr) (c : Nat) (xs : List PB) (w : World) (hg : Gr w0 w) (hr : BoxRow w A (xs.map raw)) (hS : ∀ x ∈ xs, S x) (len : Nat) (hl : xs.length = len) (hlen : len ≤ 1000000) :
 Calls Tryz.prog 147 #[.slice A len c, .func (.func g) #[] lb] w fun e w' => e = .returned (.int .i64 (idxI p xs)) ∧ Gr w w' := by
 have HP := hiD hP
 have HR := hiD hr
 have HS := hiD hS
 have HL := hiD hl
 have HG := hiD hg
 have eg := hP.ent
 clear hP hr hS hl hg
 go_enter Tryz.func147, Tryz.ntmps147
 go_wp2
 go_loopw [8] (fun i wr => ∃ k : Nat, i = .int .i64 k ∧ k ≤ len ∧ Gr w wr ∧ Hid (∀ j x, j < k → xs[j]? = some x → p x = false)) (fun i _ => len - (intOf i).toNat)
 case atStart => exact ⟨0, rfl, Nat.zero_le _, Gr.refl _, fun j x hj => by omega⟩
 case round =>
  obtain ⟨k, rfl, hk, hgr, HN⟩ := hrel
  have HGR := hiD hgr
  clear hgr
  by_cases hlt : k < len
  ·obtain ⟨x, hx⟩ : ∃ x, xs[k]? = some x := ⟨_, gE (by rw [HL.out]; exact hlt)⟩
   obtain ⟨blk, off, rfl, hb⟩ := HR.out.2 k (raw x) (by simp [hx])
   have l1 : rowV 15 wr blk (off + k * 15) = some (pv x) := hb.gr HGR.out
   have HX := hiD hx
   have hd : decide ((k : Int) < (len : Int)) = true := by simp; omega
   have hsx := HS.out x (List.mem_of_getElem? hx)
   have hc := HP.out.call x wr hsx (HG.out.trans HGR.out)
   have HC := hiD hc
   clear hx hb hc hsx
   cases hpx : p x
   ·go_wp2_with (go_at_fn g; refine HC.out.mono ?_; rintro e w' ⟨rfl, hgw⟩)
    go_roundw
    case rel =>
     exact tZ53
    case measure => simp [intOf]; omega
   ·go_wp2_with (go_at_fn g; refine HC.out.mono ?_; rintro e w' ⟨rfl, hgw⟩)
    go_ret
    refine ⟨?_, HGR.out.trans hgw⟩
    have hf : xs.findIdx? p = some k := by
     exact tZ42
    simp [idxI, hf]
  ·obtain rfl : k = len := by omega
   have hd : decide ((k : Int) < (k : Int)) = false := by simp
   go_wp2_with fail
   go_ret
   refine ⟨?_, HGR.out⟩
   have hf : xs.findIdx? p = none := List.findIdx?_eq_none_iff.2 fun x hx => by
    exact tZ66
   simp [idxI, hf]
set_option maxHeartbeats 1000000 in
theorem contains_call (w0 : World) (g : FuncId) (lb : Array Value) (S : PB → Prop) (p : PB → Bool) (hP : Pr w0 g lb S p) (A : Option Addr) (c : Nat) (xs : List PB) (w : World) (hg : Gr w0 w) (hr : BoxRow w A (xs.map raw)) (hS : ∀ x ∈ xs, S x) (len : Nat) (hl : xs.length = len) (hlen : len ≤ 1000000) :
 Calls Tryz.prog 99 #[.slice A len c, .func (.func g) #[] lb] w fun e w' => e = .returned (.bool (xs.any p)) ∧ Gr w w' := by
 have H := hiD (index_call w0 g lb S p hP A c xs w hg hr hS len hl hlen)
 have hn := idxI_nn p xs
 clear hP hr hS hl hg
 go_enter Tryz.func99, Tryz.ntmps99
 go_wp2_with (go_at_call 147; refine H.out.mono ?_; rintro e w' ⟨rfl, hgw⟩)
 go_ret
 exact ⟨by rw [← hn]; rfl, hgw⟩
set_option maxHeartbeats 1000000 in
theorem isRing_call (x : PB) : Ans 98 #[pv x] (.bool (decide (x.lf.kind = 5))) := by
 intro w
 go_enter Tryz.func98, Tryz.ntmps98
 go_wp2
 go_ret
 exact ⟨by congr 2, gw⟩
set_option maxHeartbeats 1000000 in
theorem scaleOf1_call (x y : PB) (hx : PL x) (hy : PL y) (b : Nat) (w : World) (hc : rowV 15 w b 0 = some (pv y)) :
 Calls Tryz.prog 144 #[pv x, .pointer (some ⟨b, 0, none⟩)] w fun e w' => e = .returned (.bool (holdsB x y)) ∧ Gr w w' := by
 have hb : b < w.heap.size := rowV_lt hc
 have h1 := holds_call x y hx hy
 go_enter Tryz.func144, Tryz.ntmps144
 go_wp2_with (go_at_call 96; refine (h1 _).mono ?_; rintro e w' ⟨rfl, hgw⟩)
 go_ret
 exact ⟨rfl, Gr.trans gw hgw⟩
set_option maxHeartbeats 1000000 in
theorem readGap_call (a : Rat) (h1 : -4611686018427387904 ≤ a.num) (h2 : a.num ≤ 4611686018427387904) (h3 : a.den ≤ 100000000000000000) : Ans 43 #[fv a] (.bool (decide (24 ≤ a))) := by
 intro w
 have hw := whole_call 24
 have hc := compare_call a 24 (by simpa using h1) (by simpa using h2) (by have : (24 : Rat).num = 24 := rfl; rw [this]; omega) (by have : (24 : Rat).num = 24 := rfl; rw [this]; omega)
 have hn : decide (0 ≤ cmpR a 24) = decide (24 ≤ a) := by
  have := cmpR_nn 24 a
  simp [this]
 go_enter Tryz.func43, Tryz.ntmps43
 go_wp2_with fail
 refine tail_grown 3 (by kernel_rfl) ?_
 simp only [List.take_succ_cons, List.take_zero, List.drop_succ_cons, List.drop_zero]
 repeat (go_big_quiet_step ((first | (go_at_call 45; exact hw.quiet) | (go_at_call 44; exact hc.quiet))))
 refine wpQuiet_nil ?_
 rintro w' ⟨⟨nq, osq⟩, rfl⟩
 go_wp2
 go_ret
 exact ⟨by rw [← hn]; rfl, gw⟩
end Go.Proofs.OGW
