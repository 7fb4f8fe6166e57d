import Derived.Deep.Cut
import Derived.Test.YtmejcmollpbcfaaGreatP07
set_option linter.all false
namespace Go.Proofs.OGW
open Go.RowKit Go.Sort OG Go.Shelf
attribute [local go_sem] sA fv sB sG Nat.zero_add
attribute [local go_sem ↓] ld66 ld51 st66 st51
theorem sym_sep {S : PB → Prop} {cf : PB → PB → Int} (hO : Ord S cf) {U1 U2 V1 V2 : List PB} (hS : ∀ x ∈ U1 ++ U2 ++ (V1 ++ V2), S x) (hU : Srt cf (U1 ++ U2)) (hV : Srt cf (V1 ++ V2))
 (hP : ∀ p q, U1.getLast? = some p → V2.head? = some q → 0 ≤ cf q p) (hQ : ∀ p q, V1.getLast? = some p → U2.head? = some q → 0 ≤ cf q p) : ∀ x ∈ U1 ++ V1, ∀ y ∈ U2 ++ V2, 0 ≤ cf y x := by
 have h1 : Srt cf (U1 ++ V2) := Srt.app hO (fun x hx => hS x (by simp only [List.mem_append] at hx ⊢; rcases hx with h | h <;> simp [h])) (srt_left hU) (srt_right hV) hP
 have h2 : Srt cf (V1 ++ U2) := Srt.app hO (fun x hx => hS x (by simp only [List.mem_append] at hx ⊢; rcases hx with h | h <;> simp [h])) (srt_left hV) (srt_right hU) hQ
 intro x hx y hy
 rcases List.mem_append.1 hx with hx | hx <;> rcases List.mem_append.1 hy with hy | hy
 ·exact (List.pairwise_append.1 hU).2.2 x hx y hy
 ·exact (List.pairwise_append.1 h1).2.2 x hx y hy
 ·exact (List.pairwise_append.1 h2).2.2 x hx y hy
 ·exact (List.pairwise_append.1 hV).2.2 x hx y hy
theorem last_split {α : Type} {l : List α} {p : α} (h : l.getLast? = some p) : ∃ l', l = l' ++ [p] := by
 rcases List.eq_nil_or_concat l with rfl | ⟨l, q, rfl⟩
 ·cases h
 ·rw [List.concat_eq_append] at h ⊢
  obtain rfl : q = p := by simpa using h
  exact ⟨l, rfl⟩
theorem head_split {α : Type} {l : List α} {p : α} (h : l.head? = some p) : ∃ l', l = p :: l' := by
 cases l with
 | nil => cases h
 | cons q l =>
   obtain rfl : q = p := by simpa using h
   exact ⟨l, rfl⟩
noncomputable def SymAt (w0 : World) (n c : Nat) (S : PB → Prop) (g : FuncId) (lb : Array Value) (cf : PB → PB → Int) (len N : Nat) : Prop :=
 ∀ (L U V R : List PB) (a m b : Nat) (W : World), Held w0 n (L ++ (U ++ (V ++ R))) W → (L ++ (U ++ (V ++ R))).length = len → L.length = a → a + U.length = m → m + V.length = b → 0 < U.length → 0 < V.length → U.length + V.length ≤ N → (∀ x ∈ U ++ V, S x) → Srt cf U → Srt cf V →
  Calls Tryz.prog 181 #[.slice (some ⟨n, 0, none⟩) len c, .int .i64 a, .int .i64 m, .int .i64 b, .func (.func g) #[] lb] W fun e w' => e = .returned (.tuple #[]) ∧ ∃ T, T.Perm (U ++ V) ∧ Srt cf T ∧ Held w0 n (L ++ (T ++ R)) w'
theorem get_mid {L U V R : List PB} {a m b i : Nat} (ha : L.length = a) (hm : a + U.length = m) (hb : m + V.length = b) (h1 : a ≤ i) (h2 : i < b) : ∃ x, (L ++ (U ++ (V ++ R)))[i]? = some x ∧ x ∈ U ++ V := by
 have hl : i - a < (U ++ V).length := by simp; omega
 refine ⟨(U ++ V)[i - a], ?_, List.getElem_mem _⟩
 rw [List.getElem?_append_right (by omega), ha, ← List.append_assoc, List.getElem?_append_left hl, gE hl]
set_option maxHeartbeats 4000000 in
set_option maxRecDepth 100000 in
theorem sym3_call (w0 : World) (n c a m b : Nat) (S : PB → Prop) (g : FuncId) (lb : Array Value) (cf : PB → PB → Int) (hC : Cmp w0 n S g lb cf) (hO : Ord S cf) (len N : Nat) (IH : SymAt w0 n c S g lb cf len N) (xs L U V R : List PB) (W : World) (hH : Held w0 n xs W) (hxs : xs = L ++ (U ++ (V ++ R)))
 (ha : L.length = a) (hm : a + U.length = m) (hb : m + V.length = b) (hU2 : 2 ≤ U.length) (hV2 : 2 ≤ V.length) (hN : U.length + V.length ≤ N + 1) (hS : ∀ x ∈ U ++ V, S x) (hU : Srt cf U) (hV : Srt cf V) (hln : xs.length = len) (hlen : len ≤ 1000000000) :
 Calls Tryz.prog 181 #[.slice (some ⟨n, 0, none⟩) len c, .int .i64 a, .int .i64 m, .int .i64 b, .func (.func g) #[] lb] W fun e w' => e = .returned (.tuple #[]) ∧ ∃ T, T.Perm (U ++ V) ∧ Srt cf T ∧ Held w0 n (L ++ (T ++ R)) w' := by
 have hl := congrArg List.length hxs
 simp only [List.length_append] at hl
 rw [hln] at hl
 have b1 : b ≤ len := by omega
 have b2 : a + 2 ≤ m := by omega
 have b3 : m + 2 ≤ b := by omega
 have hget : ∀ i, a ≤ i → i < b → ∃ x, xs[i]? = some x ∧ S x := fun i h1 h2 => by
  obtain ⟨x, hx, hxm⟩ := get_mid (R := R) ha hm hb h1 h2
  exact ⟨x, by rw [hxs]; exact hx, hS x hxm⟩
 obtain ⟨mid, hmid⟩ : ∃ mid, mid = (a + b) / 2 := ⟨_, rfl⟩
 obtain ⟨nn, hnn⟩ : ∃ nn, nn = mid + m := ⟨_, rfl⟩
 have q1 : ((a : Int) + (b : Nat)) / 2 = (mid : Int) := by omega
 have q2 : (mid : Int) + (m : Nat) = (nn : Int) := by omega
 have q3 : IntKind.u64.wrap ((a : Int) + (b : Nat)) = (a : Int) + (b : Nat) := by rw [IntKind.wrap_u64]; omega
 have c1 : a < mid := by omega
 have c2 : mid < b := by omega
 have c3 : 2 * mid ≤ a + b := by omega
 have c4 : a + b ≤ 2 * mid + 1 := by omega
 have HX := hiD hxs
 have HL := hiD hl
 have HA := hiD ha
 have HM := hiD hm
 have HB := hiD hb
 have HS := hiD hS
 have HU := hiD hU
 have HV := hiD hV
 have HN := hiD hN
 have HNN := hiD hnn
 have HG := hiD hget
 clear hxs hl hln ha hm hb hS hU hV hU2 hV2 hN hmid hget
 have eg := hC.ent
 have m1 : IntKind.i64.wrap ((m : Int) - a) = (m : Int) - a := IntWalk.i64_in _ ⟨by omega, by omega⟩
 have m2 : ((m : Int) - a == 1) = false := by simp; omega
 have m3 : IntKind.i64.wrap ((b : Int) - m) = (b : Int) - m := IntWalk.i64_in _ ⟨by omega, by omega⟩
 have m4 : ((b : Int) - m == 1) = false := by simp; omega
 clear hnn
 have hn0 := HNN.out
 have c5 : nn = mid + m := hn0
 clear hn0
 have HC5 := hiD c5
 have c6 : nn ≤ 2 * len := by omega
 have c7 : m < nn := by omega
 have c8 : mid < nn := by omega
 have c9 : b ≤ nn ∨ m ≤ mid := by omega
 clear c5
 go_enter Tryz.func181, Tryz.ntmps181
 go_upto_if 140 with fail
 go_cut [20, 21] from 141 (fun s20 s21 wc => ∃ lo hi : Nat, s20 = .int .i64 lo ∧ s21 = .int .i64 hi ∧ a ≤ lo ∧ lo ≤ hi ∧ hi ≤ m ∧ hi ≤ mid ∧ nn ≤ lo + b ∧ (a < lo → nn = lo + b) ∧ (hi < m → hi = mid) ∧ wc = W)
 case first =>
  by_cases hmm : mid < m
  ·have d1 : decide ((mid : Int) < (m : Nat)) = true := by simp; omega
   have d2 : IntKind.i64.wrap ((nn : Int) - (b : Nat)) = ((nn - b : Nat) : Int) := by
    have := HC5.out
    rw [show (nn : Int) - (b : Nat) = ((nn - b : Nat) : Int) by omega]
    exact IntWalk.i64_in _ ⟨by omega, by omega⟩
   have d3 : ((nn : Int) - (b : Nat)) = ((nn - b : Nat) : Int) := by have := HC5.out; omega
   go_wp2_with fail
   go_meet
   case rel => have := HC5.out; exact ⟨nn - b, mid, rfl, rfl, by omega, by omega, by omega, by omega, by omega, by omega, by omega, rfl⟩
  ·have d1 : decide ((mid : Int) < (m : Nat)) = false := by simp; omega
   go_wp2_with fail
   go_meet
   case rel => have := HC5.out; exact ⟨a, m, rfl, rfl, by omega, by omega, by omega, by omega, by omega, by omega, by omega, rfl⟩
 case rest =>
  obtain ⟨lo, hi, rfl, rfl, l1, l2, l3, l4, l5, l6, l7, rfl⟩ := hcut
  have HL6 := hiD l6
  have HL7 := hiD l7
  clear l6 l7 c9
  go_wp2
  go_loopw [20, 21] (fun i j wr => ∃ k d : Nat, i = .int .i64 k ∧ j = .int .i64 ((k : Int) + d) ∧ lo ≤ k ∧ k + d ≤ hi ∧ Hid (∀ p q, a < k → nn < k + b → xs[k - 1]? = some p → xs[nn - k]? = some q → 0 ≤ cf q p) ∧ Hid (∀ p q, k + d < m → k + d < mid → xs[nn - 1 - (k + d)]? = some p → xs[k + d]? = some q → cf p q < 0) ∧ Held w0 n xs wr) (fun i j _ => (intOf j).toNat - (intOf i).toNat)
  case atStart =>
   refine ⟨lo, hi - lo, rfl, ?_, by omega, by omega, ?_, ?_, hH⟩
   ·congr 1; omega
   ·intro p q h1 h2; have := HL6.out h1; omega
   ·intro p q h1 h2; have := HL7.out (by omega); omega
  case round =>
   obtain ⟨k, d, rfl, rfl, k1, k2, HP, HQ, hHr⟩ := hrel
   rcases Nat.eq_zero_or_pos d with rfl | hd0
   ·rw [show (k : Int) + ((0 : Nat) : Int) = k by simp]
    have hd : decide ((k : Int) < (k : Int)) = false := by simp
    obtain ⟨e, he⟩ : ∃ e, e = nn - k := ⟨_, rfl⟩
    have w1 : IntKind.i64.wrap ((nn : Int) - (k : Int)) = (e : Int) := by rw [show (nn : Int) - (k : Int) = (e : Int) by omega]; exact IntWalk.i64_in _ ⟨by omega, by omega⟩
    have e1 : m ≤ e := by have := HC5.out; omega
    have e2 : e ≤ b := by omega
    have e3 : mid + m = e + k := by have := HC5.out; omega
    have HE := hiD he
    clear he
    obtain ⟨U1, U2, hUU, hU1⟩ : ∃ U1 U2, U = U1 ++ U2 ∧ U1.length = k - a := ⟨U.take (k - a), U.drop (k - a), by simp, by have := HM.out; simp; omega⟩
    obtain ⟨V1, V2, hVV, hV1⟩ : ∃ V1 V2, V = V1 ++ V2 ∧ V1.length = e - m := ⟨V.take (e - m), V.drop (e - m), by simp, by have := HB.out; simp; omega⟩
    have hU2 : U2.length = m - k := by have := congrArg List.length hUU; simp at this; have := HM.out; omega
    have hV2 : V2.length = b - e := by have := congrArg List.length hVV; simp at this; have := HB.out; omega
    have HUU := hiD hUU
    have HVV := hiD hVV
    have HU1 := hiD hU1
    have HU2 := hiD hU2
    have HV1 := hiD hV1
    have HV2 := hiD hV2
    clear hUU hVV hU1 hU2 hV1 hV2
    have hS4 : ∀ x ∈ U1 ++ U2 ++ (V1 ++ V2), S x := by have := HS.out; rw [HUU.out, HVV.out] at this; exact this
    have hx4 : xs = L ++ (U1 ++ (U2 ++ (V1 ++ (V2 ++ R)))) := by have := HX.out; rw [HUU.out, HVV.out] at this; rw [this]; simp
    have hsU : Srt cf (U1 ++ U2) := by have := HU.out; rw [HUU.out] at this; exact this
    have hsV : Srt cf (V1 ++ V2) := by have := HV.out; rw [HVV.out] at this; exact this
    have hsep : ∀ x ∈ U1 ++ V1, ∀ y ∈ U2 ++ V2, 0 ≤ cf y x := by
     refine sym_sep hO hS4 hsU hsV ?_ ?_
     ·intro p q hp hq
      obtain ⟨U1', rfl⟩ : ∃ l, U1 = l ++ [p] := last_split hp
      obtain ⟨V2', rfl⟩ : ∃ l, V2 = q :: l := head_split hq
      have h1 := HU1.out
      have h2 := HV2.out
      simp only [List.length_append, List.length_cons, List.length_nil] at h1 h2
      refine HP.out p q (by omega) (by have := HE.out; omega) (get_at (L ++ U1') p (U2 ++ (V1 ++ (q :: V2' ++ R))) _ (by rw [hx4]; simp) (by have := HA.out; simp; omega)) (get_at (L ++ U1' ++ [p] ++ U2 ++ V1) q (V2' ++ R) _ (by rw [hx4]; simp) ?_)
      have := HA.out
      have := HU2.out
      have := HV1.out
      have := HE.out
      simp; omega
     ·intro p q hp hq
      obtain ⟨V1', rfl⟩ : ∃ l, V1 = l ++ [p] := last_split hp
      obtain ⟨U2', rfl⟩ : ∃ l, U2 = q :: l := head_split hq
      have h1 := HU2.out
      have h2 := HV1.out
      simp only [List.length_append, List.length_cons, List.length_nil] at h1 h2
      have h3 := HQ.out p q (by omega) (by omega) (get_at (L ++ U1 ++ q :: U2' ++ V1') p (V2 ++ R) _ (by rw [hx4]; simp) (by have := HA.out; have := HU1.out; have := HE.out; simp; omega)) (get_at (L ++ U1) q (U2' ++ (V1' ++ [p] ++ (V2 ++ R))) _ (by rw [hx4]; simp) (by have := HA.out; have := HU1.out; simp; omega))
      exact hO.anti _ _ (hS4 p (by simp)) (hS4 q (by simp)) h3
    have HSEP := hiD hsep
    have HX4 := hiD hx4
    have HS4 := hiD hS4
    have HSU := hiD hsU
    have HSV := hiD hsV
    clear hsep hx4 hS4 hsU hsV HP HQ
    go_upto_region 39 with fail
    go_cut [185] from 178 (fun s wc => ∃ bb : Bool, s = .bool bb ∧ (bb = true ↔ k < m ∧ m < e) ∧ wc = wr)
    case first =>
     by_cases h1 : k < m
     ·have d1 : decide ((k : Int) < (m : Int)) = true := by simp; omega
      by_cases h2 : m < e
      ·have d2 : decide ((m : Int) < (e : Int)) = true := by simp; omega
       go_wp2_with fail
       go_meet
       case rel => exact ⟨true, rfl, by simp [h1, h2], rfl⟩
      ·have d2 : decide ((m : Int) < (e : Int)) = false := by simp; omega
       go_wp2_with fail
       go_meet
       case rel => exact ⟨false, rfl, by simp [h2], rfl⟩
     ·have d1 : decide ((k : Int) < (m : Int)) = false := by simp; omega
      go_wp2_with fail
      go_meet
      case rel => exact ⟨false, rfl, by simp [h1], rfl⟩
    case rest =>
    obtain ⟨bb, rfl, hbb, rfl⟩ := hcut
    have HBB := hiD hbb
    clear hbb
    go_upto_if 185 with fail
    go_cut [] from 178 (fun wc => Held w0 n (L ++ (U1 ++ (V1 ++ (U2 ++ (V2 ++ R))))) wc)
    case first =>
     cases bb
     ·go_wp2_with fail
      go_meet
      case rel =>
       have h := HX4.out
       have : U2 = [] ∨ V1 = [] := by
        have h1 := HBB.out
        have h2 := HU2.out
        have h3 := HV1.out
        simp only [Bool.false_eq_true, false_iff, not_and, Nat.not_lt] at h1
        by_cases hk : k < m
        ·exact .inr (List.eq_nil_of_length_eq_zero (by have := h1 hk; omega))
        ·exact .inl (List.eq_nil_of_length_eq_zero (by omega))
       rcases this with rfl | rfl
       ·rw [h] at hHr; simpa using hHr
       ·rw [h] at hHr; simpa using hHr
     ·have hkm : k < m ∧ m < e := HBB.out.1 rfl
      have hr := rotate_call w0 n c k m e (.func (.func g) #[] lb) xs (L ++ U1) U2 V1 (V2 ++ R) wc hHr (by rw [HX4.out]; simp) (by have := HA.out; have := HU1.out; simp; omega) (by have := HU2.out; omega) (by have := HV1.out; omega) (by have := HU2.out; omega) (by have := HV1.out; omega) len (by have := HL.out; have := HX.out; rw [this]; simp; omega) hlen
      have HR := hiD hr
      clear hr
      go_wp2_with fail
      refine HR.out.mono ?_
      rintro e w' ⟨rfl, hh⟩
      go_wp2
      go_meet
      case rel => simpa using hh
    case rest =>
    clear HBB hHr
    have hh1 := hcut
    clear hcut
    go_upto_region 41 with fail
    go_cut [199] from 178 (fun s wx => ∃ bb : Bool, s = .bool bb ∧ (bb = true ↔ a < k ∧ k < mid) ∧ wx = wc)
    case first =>
     by_cases h1 : a < k
     ·have d1 : decide ((a : Int) < (k : Int)) = true := by simp; omega
      by_cases h2 : k < mid
      ·have d2 : decide ((k : Int) < (mid : Int)) = true := by simp; omega
       go_wp2_with fail
       go_meet
       case rel => exact ⟨true, rfl, by simp [h1, h2], rfl⟩
      ·have d2 : decide ((k : Int) < (mid : Int)) = false := by simp; omega
       go_wp2_with fail
       go_meet
       case rel => exact ⟨false, rfl, by simp [h2], rfl⟩
     ·have d1 : decide ((a : Int) < (k : Int)) = false := by simp; omega
      go_wp2_with fail
      go_meet
      case rel => exact ⟨false, rfl, by simp [h1], rfl⟩
    case rest =>
    obtain ⟨bb, rfl, hbb, rfl⟩ := hcut
    have HBB := hiD hbb
    clear hbb
    have hlen1 : (L ++ (U1 ++ (V1 ++ (U2 ++ (V2 ++ R))))).length = len := by
     have h := HL.out
     have h1 := congrArg List.length HUU.out
     have h2 := congrArg List.length HVV.out
     simp only [List.length_append] at h1 h2 ⊢
     omega
    have HLEN := hiD hlen1
    clear hlen1
    go_upto_if 199 with fail
    go_cut [] from 178 (fun wx => ∃ T1, T1.Perm (U1 ++ V1) ∧ Srt cf T1 ∧ Held w0 n (L ++ (T1 ++ (U2 ++ (V2 ++ R)))) wx)
    case first =>
     cases bb
     ·go_wp2_with fail
      go_meet
      case rel =>
       refine ⟨U1 ++ V1, List.Perm.refl _, ?_, by simpa using hh1⟩
       have : U1 = [] ∨ V1 = [] := by
        have h1 := HBB.out
        have h2 := HU1.out
        have h3 := HV1.out
        simp only [Bool.false_eq_true, false_iff, not_and, Nat.not_lt] at h1
        by_cases hk : a < k
        ·exact .inr (List.eq_nil_of_length_eq_zero (by have := h1 hk; omega))
        ·exact .inl (List.eq_nil_of_length_eq_zero (by omega))
       rcases this with rfl | rfl
       ·simpa using srt_left HSV.out
       ·simpa using srt_left HSU.out
     ·have hkm : a < k ∧ k < mid := HBB.out.1 rfl
      have hr := IH L U1 V1 (U2 ++ (V2 ++ R)) a k mid wc hh1 HLEN.out HA.out (by have := HU1.out; omega) (by have := HV1.out; omega) (by have := HU1.out; omega) (by have := HV1.out; omega) (by have := HU1.out; have := HV1.out; have := HN.out; have := HM.out; have := HB.out; omega)
       (fun x hx => HS4.out x (by simp only [List.mem_append] at hx ⊢; rcases hx with h | h <;> simp [h])) (srt_left HSU.out) (srt_left HSV.out)
      have HR := hiD hr
      clear hr
      go_wp2_with fail
      refine HR.out.mono ?_
      rintro e w' ⟨rfl, hh⟩
      go_wp2
      go_meet
      case rel => exact hh
    case rest =>
    clear HBB hh1
    obtain ⟨T1, hT1, hsT1, hh1⟩ := hcut
    have HT1 := hiD hT1
    have HST1 := hiD hsT1
    clear hT1 hsT1
    go_upto_region 43 with fail
    go_cut [213] from 178 (fun s wx => ∃ bb : Bool, s = .bool bb ∧ (bb = true ↔ mid < e ∧ e < b) ∧ wx = wc)
    case first =>
     by_cases h1 : mid < e
     ·have d1 : decide ((mid : Int) < (e : Int)) = true := by simp; omega
      by_cases h2 : e < b
      ·have d2 : decide ((e : Int) < (b : Int)) = true := by simp; omega
       go_wp2_with fail
       go_meet
       case rel => exact ⟨true, rfl, by simp [h1, h2], rfl⟩
      ·have d2 : decide ((e : Int) < (b : Int)) = false := by simp; omega
       go_wp2_with fail
       go_meet
       case rel => exact ⟨false, rfl, by simp [h2], rfl⟩
     ·have d1 : decide ((mid : Int) < (e : Int)) = false := by simp; omega
      go_wp2_with fail
      go_meet
      case rel => exact ⟨false, rfl, by simp [h1], rfl⟩
    case rest =>
    obtain ⟨bb, rfl, hbb, rfl⟩ := hcut
    have HBB := hiD hbb
    clear hbb
    have fin : ∀ T2, T2.Perm (U2 ++ V2) → Srt cf T2 → ∃ T, T.Perm (U ++ V) ∧ Srt cf T ∧ L ++ (T ++ R) = L ++ T1 ++ (T2 ++ R) := by
     intro T2 h1 h2
     refine ⟨T1 ++ T2, ?_, ?_, by simp⟩
     ·rw [HUU.out, HVV.out]
      refine (List.Perm.append HT1.out h1).trans ?_
      simp only [List.append_assoc]
      refine List.Perm.append_left _ ?_
      rw [← List.append_assoc, ← List.append_assoc]
      exact List.Perm.append_right _ List.perm_append_comm
     ·exact List.pairwise_append.2 ⟨HST1.out, h2, fun x hx y hy => HSEP.out x (HT1.out.mem_iff.1 hx) y (h1.mem_iff.1 hy)⟩
    have FIN := hiD fin
    clear fin
    cases bb
    ·go_wp2_with fail
     go_end0
     refine ⟨rfl, ?_⟩
     have : Srt cf (U2 ++ V2) := by
      have : U2 = [] ∨ V2 = [] := by
       have h1 := HBB.out
       have h2 := HU2.out
       have h3 := HV2.out
       simp only [Bool.false_eq_true, false_iff, not_and, Nat.not_lt] at h1
       by_cases hk : mid < e
       ·exact .inr (List.eq_nil_of_length_eq_zero (by have := h1 hk; omega))
       ·exact .inl (List.eq_nil_of_length_eq_zero (by omega))
      rcases this with rfl | rfl
      ·simpa using srt_right HSV.out
      ·simpa using srt_right HSU.out
     obtain ⟨T, t1, t2, t3⟩ := FIN.out _ (List.Perm.refl _) this
     exact ⟨T, t1, t2, by rw [t3]; simpa using hh1⟩
    ·have hkm : mid < e ∧ e < b := HBB.out.1 rfl
     have hlT : T1.length = mid - a := by have := HT1.out.length_eq; simp at this; have := HU1.out; have := HV1.out; omega
     have hr := IH (L ++ T1) U2 V2 R mid e b wc (by simpa using hh1) (by have h := HLEN.out; have := HU1.out; have := HV1.out; simp at h ⊢; omega) (by have := HA.out; simp; omega) (by have := HU2.out; omega) (by have := HV2.out; omega) (by have := HU2.out; omega) (by have := HV2.out; omega) (by have := HU2.out; have := HV2.out; have := HN.out; have := HM.out; have := HB.out; omega)
      (fun x hx => HS4.out x (by simp only [List.mem_append] at hx ⊢; rcases hx with h | h <;> simp [h])) (srt_right HSU.out) (srt_right HSV.out)
     have HR := hiD hr
     clear hr hlT
     go_wp2_with fail
     refine HR.out.mono ?_
     rintro e w' ⟨rfl, T2, h1, h2, hh⟩
     go_wp2
     go_end0
     obtain ⟨T, t1, t2, t3⟩ := FIN.out _ h1 h2
     exact ⟨rfl, T, t1, t2, by rw [t3]; exact hh⟩
   ·have hd : decide ((k : Int) < (k : Int) + (d : Nat)) = true := by simp; omega
    have u1 : IntKind.u64.wrap ((k : Int) + ((k : Int) + (d : Nat))) = (k : Int) + ((k : Int) + (d : Nat)) := by rw [IntKind.wrap_u64]; omega
    obtain ⟨h, hh⟩ : ∃ h, h = d / 2 := ⟨_, rfl⟩
    have hh2 : ((k : Int) + ((k : Int) + (d : Nat))) / 2 = (k : Int) + h := by omega
    have hh3 : h < d := by omega
    obtain ⟨y, hy, hSy⟩ := HG.out (k + h) (by omega) (by omega)
    obtain ⟨z, hz, hSz⟩ := HG.out (nn - 1 - (k + h)) (by have := HC5.out; omega) (by have := HC5.out; omega)
    have HHH := hiD hh
    clear hh
    have l1 := hHr.load hy
    have l2 := hHr.load hz
    have HY := hiD hy
    have HZ := hiD hz
    clear hy hz
    have hc := fun m os => hC.at hHr hSz hSy m os
    have hn := hHr.nlt
    have t1 : ((k : Int) + (h : Nat)).toNat = k + h := by omega
    have z1 : (k : Int) + (h : Nat) < len := by omega
    have z3 : (0 : Int) ≤ (k : Int) + (h : Nat) := by omega
    have w2 : IntKind.i64.wrap ((k : Int) + (h : Nat) + 1) = (k : Int) + (h : Nat) + 1 := IntWalk.i64_in _ ⟨by omega, by omega⟩
    have e5 : (nn : Int) - 1 - ((k : Int) + (h : Nat)) = ((nn - 1 - (k + h) : Nat) : Int) := by omega
    have w3 : IntKind.i64.wrap ((nn : Int) - 1 - ((k : Int) + (h : Nat))) = ((nn - 1 - (k + h) : Nat) : Int) := by rw [e5]; exact IntWalk.i64_in _ ⟨by omega, by omega⟩
    have z5 : nn - 1 - (k + h) < len := by have := HC5.out; omega
    by_cases hcf : cf z y < 0
    ·have hdc : decide (cf z y < 0) = true := by simpa using hcf
     go_wp2_with fail
     refine wp_region_quiet_grown mixed (by kernel_rfl) ?_
     repeat (go_big_quiet_step ((go_at_fn g; exact hc _ _)))
     refine wpQuiet_nil ?_
     rintro w' ⟨⟨nq, osq⟩, rfl⟩
     have hH3 := hHr.gr (Gr.of_eq nq osq)
     generalize Sort.grow (_ : World) osq = w2 at hH3 ⊢
     go_wp2
     go_roundw
     case rel =>
      refine ⟨k, h, rfl, rfl, k1, by omega, HP, ?_, hH3⟩
      intro p q _ _ hp hq
      rw [HZ.out] at hp
      rw [HY.out] at hq
      obtain rfl := Option.some.inj hp
      obtain rfl := Option.some.inj hq
      exact hcf
     case measure => simp [intOf]; omega
    ·have hdc : decide (cf z y < 0) = false := by simpa using hcf
     go_wp2_with fail
     refine wp_region_quiet_grown mixed (by kernel_rfl) ?_
     repeat (go_big_quiet_step ((go_at_fn g; exact hc _ _)))
     refine wpQuiet_nil ?_
     rintro w' ⟨⟨nq, osq⟩, rfl⟩
     have hH3 := hHr.gr (Gr.of_eq nq osq)
     generalize Sort.grow (_ : World) osq = w2 at hH3 ⊢
     go_wp2
     go_roundw
     case rel =>
      refine ⟨k + h + 1, d - h - 1, rfl, ?_, by omega, by omega, ?_, ?_, hH3⟩
      ·congr 1; omega
      ·intro p q _ _ hp hq
       rw [show k + h + 1 - 1 = k + h by omega, HY.out] at hp
       rw [show nn - (k + h + 1) = nn - 1 - (k + h) by omega, HZ.out] at hq
       obtain rfl := Option.some.inj hp
       obtain rfl := Option.some.inj hq
       omega
      ·rw [show k + h + 1 + (d - h - 1) = k + d by omega]; exact HQ
     case measure => simp [intOf]; omega
theorem sym_call (w0 : World) (n c : Nat) (S : PB → Prop) (g : FuncId) (lb : Array Value) (cf : PB → PB → Int) (hC : Cmp w0 n S g lb cf) (hO : Ord S cf) (len : Nat) (hlen : len ≤ 1000000000) : ∀ N, SymAt w0 n c S g lb cf len N := by
 intro N
 induction N with
 | zero => intro L U V R a m b W _ _ _ _ _ h1 h2 h3; omega
 | succ N ih =>
   intro L U V R a m b W hH hl ha hm hb h1 h2 h3 hS hU hV
   rcases Nat.lt_or_ge U.length 2 with hu | hu
   ·obtain ⟨u, rfl⟩ : ∃ u, U = [u] := List.length_eq_one_iff.1 (by omega)
    simp only [List.length_cons, List.length_nil, Nat.zero_add] at hm
    subst hm
    exact sym1_call w0 n c a b S g lb cf hC hO _ L V R u W hH (by simp) ha hb (hS u (by simp)) (fun x hx => hS x (by simp [hx])) hV len hl hlen
   ·rcases Nat.lt_or_ge V.length 2 with hv | hv
    ·obtain ⟨v, rfl⟩ : ∃ v, V = [v] := List.length_eq_one_iff.1 (by omega)
     simp only [List.length_cons, List.length_nil, Nat.zero_add] at hb
     subst hb
     exact sym2_call w0 n c a m S g lb cf hC hO _ L U R v W hH (by simp) ha hm hu (hS v (by simp)) (fun x hx => hS x (by simp [hx])) hU len hl hlen
    ·exact sym3_call w0 n c a m b S g lb cf hC hO len N ih _ L U V R W hH rfl ha hm hb hu hv h3 hS hU hV hl hlen
end Go.Proofs.OGW
