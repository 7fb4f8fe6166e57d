import Derived.Laws.EntriesVeiled
import Derived.Test.YtmejcmollpbcfaaGreatP09
set_option linter.all false
namespace Go.Proofs.OGW
open Go.RowKit Go.Sort OG Go.Shelf
attribute [local go_sem] sA fv sB sG Nat.zero_add
attribute [local go_sem ↓] ld66 ld51 st66 st51
theorem tZ122 {P : Prop} (h : P := by
 simp [Builtin.append_, run_underlying ht, sizeOf, typeInfo, hi, Builtin.lenOf, Builtin.firstCells, loadCells, loadCellsFrom]) : P := h
theorem append_drawn {P : Program} {w w' : World} {base : Nat} {t ty e : TypeId} {i : TypeInfo} {z : Value} {size bytes : Nat} (ht : P.underlying t = some (.slice e)) (hi : P.info? e = some i) (hz : i.zero = some z)
 (hsize : i.size = size) (hby : i.bytes = bytes) (hsz : 0 < size) {v v' : Value} {n : Nat} {xs : List Value} (hown : w.ownsRow base e size v n xs)
 {a : Addr} {m c : Nat} {news : List Value} (hl : news.length = m * size) (hnews : ∀ j u, news[j]? = some u → w.cell? (a.add j) = some u) (h1 : ∀ u ∈ news, u.oneCell' = true)
 (h63 : n + m ≤ maxLen) (hbytes : (n + m) * bytes ≤ 140737488355328) (hr : (Builtin.append_ #[t, t] ty #[v, .slice (some a) m c]).run P w = .ok v' w') : w.drawn ≤ w'.drawn := by
 subst hsize
 subst hby
 have hsmall : n + m ≤ 9223372036854775807 := by simp only [maxLen] at h63; omega
 rcases hown.2 with ⟨rfl, rfl⟩ | ⟨g, cap, cur, rfl, hbg, hg, hnc, hcm, hcs, htake⟩
 ·by_cases hm : m = 0
  ·subst hm
   have hn : news = [] := List.eq_nil_of_length_eq_zero (by simpa using hl)
   subst hn
   have : (Builtin.append_ #[t, t] ty #[.slice none 0 0, .slice (some a) 0 c]).run P w = .ok (.slice none 0 0) w := by
    exact tZ122
   rw [this] at hr
   injection hr with _ h
   rw [h]; exact Nat.le_refl _
  ·have h := run_append_nil (P := P) w t ty e i z ht hi hz a m c news hl hnews (by omega) (by omega) (by have hb := hbytes; simp only [Nat.zero_add] at hb; omega)
   rw [h] at hr
   injection hr with _ h
   rw [← h]; exact Nat.le_succ _
 ·by_cases hroom : n + m ≤ cap
  ·have hfit : n * i.size + news.length ≤ cur.size := by rw [hl, hcs, ← Nat.add_mul]; exact Nat.mul_le_mul_right _ hroom
   have h := run_append_room (P := P) w t ty e i ht hi g n cap cur hg a m c news hl hnews h1 hroom hfit
   rw [h] at hr
   injection hr with _ h
   rw [← h]; exact Nat.le_refl _
  ·have holds : ∀ j u, xs[j]? = some u → w.cell? ((⟨g, 0, none⟩ : Addr).add j) = some u := hown.cells (g := g) rfl
   have h := run_append_grow (P := P) w t ty e i z ht hi hz ⟨g, 0, none⟩ n cap xs hown.1 holds a m c news hl hnews (by omega) (by omega) (growslice_fits (by omega) hbytes)
   rw [h] at hr
   injection hr with _ h
   rw [← h]; exact Nat.le_succ _
theorem wpList_app {P : Program} {w : World} {ops : Array Oper} {rest : List Oper} {o : Oper} {a : Act} {Q : Exit → Act → World → Prop} (hgd : o.guard = none) (s x : Operand) (t : TypeId)
 (ho : o.op = .call { callee := .builtin .append, args := #[s, x], argTypes := #[t, t] })
 (base : Nat) (e : TypeId) (i : TypeInfo) (z : Value) (size bytes : Nat) (ht : P.underlying t = some (.slice e)) (hi : P.info? e = some i) (hz : i.zero = some z)
 (hsize : i.size = size) (hby : i.bytes = bytes) (hzs : z.cells.size = size) (hsz : 0 < size)
 (v : Value) (n : Nat) (xs : List Value) (hs : a.eval s = v) (hown : w.ownsRow base e size v n xs)
 (ad : Addr) (m c : Nat) (news : List Value) (hx : a.eval x = .slice (some ad) m c) (hl : news.length = m * size) (hnews : ∀ j u, news[j]? = some u → w.cell? (ad.add j) = some u) (h1 : ∀ u ∈ news, u.oneCell' = true)
 (h63 : n + m ≤ maxLen) (hbytes : (n + m) * bytes ≤ 140737488355328) (hbase : base ≤ w.heap.size)
 (h : ∀ v' w', w'.ownsRow base e size v' (n + m) (xs ++ news) → w.grownBy w' v.ownBlock → w.drawn ≤ w'.drawn → (v' = .slice none 0 0 ↔ v = .slice none 0 0 ∧ m = 0) → wpList P ops Q rest (a.put o.dst v') w') : wpList P ops Q (o :: rest) a w := by
 refine wpList_plain hgd fun _ hK => ?_
 obtain ⟨v', w', hr, h2, h3, h4⟩ := run_append_own (P := P) w base t o.type e i z size bytes ht hi hz hsize hby hzs hsz v n xs hown ad m c news hl hnews h1 h63 hbytes hbase
 have h5 := append_drawn ht hi hz hsize hby hsz hown hl hnews h1 h63 hbytes hr
 unfold Oper.wp execOp
 simp only [ho, resolve, invoke, builtin, Sem.run_bind, Sem.run_pure, Result.andThen_ok, List.map_toArray, List.map_cons, List.map_nil, hs, hx, hr]
 exact hK _ _ (h v' w' h2 h3 h5 h4)
theorem info66 : (Tryz.prog.info? 66).map (fun i => (i.zero, i.size, i.bytes)) = some (some (.agg #[.int .i64 0, .int .i64 0, .int .i64 0, .bool false, .int .i64 0, .int .i64 0, .int .i64 0, .int .i64 0, .int .i64 0, .int .i64 0, .int .i64 0, .int .i64 0, .int .i64 0, .int .i64 0, .int .i64 0]), 15, 120) := by kernel_rfl
def rcells (xs : List PB) : List Value := xs.flatMap fun x => bcells (raw x)
theorem rcells_len (xs : List PB) : (rcells xs).length = xs.length * 15 := by
 induction xs with
 | nil => rfl
 | cons x xs ih =>
   have e : rcells (x :: xs) = bcells (raw x) ++ rcells xs := rfl
   rw [e, List.length_append, ih]
   show 15 + _ = (xs.length + 1) * 15
   omega
theorem rcells_get (xs : List PB) : ∀ (j : Nat) (u : Value), (rcells xs)[j]? = some u ↔ ∃ x, xs[j / 15]? = some x ∧ (bcells (raw x))[j % 15]? = some u := by
 induction xs with
 | nil => intro j u; simp [rcells]
 | cons x xs ih =>
   intro j u
   have e : rcells (x :: xs) = bcells (raw x) ++ rcells xs := rfl
   rw [e]
   have hl : (bcells (raw x)).length = 15 := rfl
   rcases Nat.lt_or_ge j 15 with h | h
   ·rw [List.getElem?_append_left (by omega), Nat.div_eq_of_lt h, Nat.mod_eq_of_lt h]
    simp
   ·rw [List.getElem?_append_right (by omega), hl, ih]
    have h1 : j / 15 = (j - 15) / 15 + 1 := by omega
    have h2 : j % 15 = (j - 15) % 15 := by omega
    rw [h1, h2]
    simp
theorem rcells_one (xs : List PB) : ∀ u ∈ rcells xs, u.oneCell' = true := by
 intro u hu
 obtain ⟨x, _, h⟩ := List.mem_flatMap.1 hu
 simp only [bcells, List.mem_cons, List.not_mem_nil, or_false] at h
 rcases h with rfl | rfl | rfl | rfl | rfl | rfl | rfl | rfl | rfl | rfl | rfl | rfl | rfl | rfl | rfl <;> rfl
theorem BoxAt.cell {w : World} {b o : Nat} {x : RBox} (h : BoxAt w b o x) : ∀ (j : Nat) v, (bcells x)[j]? = some v → w.cell? ⟨b, o + j, none⟩ = some v := fun j v hv => rowV_cell h j v (by simpa using hv)
theorem BoxRow.cells {w : World} {b o : Nat} {xs : List PB} (h : BoxRow w (some ⟨b, o, none⟩) (xs.map raw)) : ∀ (j : Nat) u, (rcells xs)[j]? = some u → w.cell? ((⟨b, o, none⟩ : Addr).add j) = some u := by
 intro j u hu
 obtain ⟨x, hx, hv⟩ := (rcells_get xs j u).1 hu
 obtain ⟨b', o', e, k⟩ := h.2 (j / 15) (raw x) (by simp [hx])
 obtain ⟨rfl, rfl⟩ : b = b' ∧ o = o' := by injection e with e; injection e; exact ⟨‹_›, ‹_›⟩
 have := k.cell (j % 15) u hv
 rw [Addr.add_lit]
 rw [← this]
 congr 2
 omega
theorem Held.of_own {w : World} {base n : Nat} {xs : List PB} {v : Value} (h : w.ownsRow base 66 15 v n (rcells xs)) (hne : xs ≠ []) : n = xs.length ∧ ∃ g c, v = .slice (some ⟨g, 0, none⟩) xs.length c ∧ base ≤ g ∧ Held w g xs w := by
 have hn : n = xs.length := by have := h.1; rw [rcells_len] at this; omega
 subst hn
 refine ⟨rfl, ?_⟩
 rcases h.2 with ⟨_, h0⟩ | ⟨g, cap, cur, rfl, hb, hg, hc, _, hs, ht⟩
 ·exact absurd (List.eq_nil_of_length_eq_zero h0) hne
 ·refine ⟨g, cap, rfl, hb, rfl, rfl, rfl, Nat.le_refl _, Nat.le_refl _, fun _ _ _ => rfl, ?_, cur, hg, by rw [hs]; exact Nat.mul_le_mul_right _ hc, ?_⟩
  ·exact (Array.getElem?_eq_some_iff.1 hg).1
  ·intro i x hx j v hv
   have hi : i < xs.length := (gO hx).1
   have hj : j < 15 := (gO hv).1
   have h1 : (rcells xs)[i * 15 + j]? = some v := (rcells_get xs _ v).2 ⟨x, by rw [show (i * 15 + j) / 15 = i by omega]; exact hx, by rw [show (i * 15 + j) % 15 = j by omega]; exact hv⟩
   rw [← ht, List.getElem?_take_of_lt (by omega)] at h1
   simpa using h1
theorem Held.to_gr {w w1 w2 : World} {g : Nat} {xs : List PB} (h : Held w1 g xs w2) (hg : Gr w w1) (hb : w.heap.size ≤ g) : Gr w w2 where
 b := ⟨h.os.trans hg.b.os, h.tape.trans hg.b.tape, h.output.trans hg.b.output, Nat.le_trans hg.b.size h.size, fun k hk => (h.keep k (Nat.lt_of_lt_of_le hk hg.b.size) (by omega)).trans (hg.b.block k hk)⟩
 d := Nat.le_trans hg.d h.drawn
theorem Held.boxRow {w1 w2 : World} {g : Nat} {xs : List PB} (h : Held w1 g xs w2) (hl : xs.length ≤ 140737488355328) : BoxRow w2 (some ⟨g, 0, none⟩) (xs.map raw) := by
 refine ⟨by simpa using hl, fun j x hx => ?_⟩
 obtain ⟨y, hy, rfl⟩ : ∃ y, xs[j]? = some y ∧ raw y = x := by simpa using hx
 exact ⟨g, 0, rfl, by rw [Nat.zero_add]; exact h.load hy⟩
theorem tZ47 {P : Prop} (h : P := by
 have hx : xs = [] := by
  cases xs with
  | nil => rfl
  | cons x xs => obtain ⟨_, _, e, _⟩ := HR.out.2 0 (raw x) (by simp); cases e
 go_enter Tryz.func101, Tryz.ntmps101
 go_wp2
 go_ret
 have := HL.out
 subst hx
 exact ⟨Gr.refl _, none, 0, by rw [← this]; rfl, fun h => absurd rfl h⟩) : P := h
theorem tZ50 {P : Prop} (h : P := by
 intro j u hu
 obtain ⟨x, hx, hv⟩ := (rcells_get xs j u).1 hu
 obtain ⟨b, o, e, k⟩ := HR.out.2 (j / 15) (raw x) (by simp [hx])
 have e' : a = ⟨b, o, none⟩ := by injection e
 subst e'
 refine Lib.cell?_alloc_some _ ?_
 exact BoxRow.cells HR.out j u hu) : P := h
set_option maxHeartbeats 1000000 in
set_option maxRecDepth 100000 in
theorem clone_call (A : Option Addr) (c : Nat) (xs : List PB) (w : World) (hr : BoxRow w A (xs.map raw)) (len : Nat) (hl : xs.length = len) (hlen : len ≤ 1000000) :
 Calls Tryz.prog 101 #[.slice A len c] w fun e w' => Gr w w' ∧ ∃ A' c', e = .returned (.slice A' len c') ∧ (xs ≠ [] → ∃ g, A' = some ⟨g, 0, none⟩ ∧ w.heap.size ≤ g ∧ Held w' g xs w') := by
 have q25 : ∀ (w : World) (a : Option Addr) (n c n' c' : Nat), (binOp .eql 25 (.slice a n c) (.slice none n' c')).run Tryz.prog w = .ok (.bool a.isNone) w := fun w a n c n' c' => Lib.run_eql_slice_nil w _ _ a n c n' c' Tryz.underlying25
 have HR := hiD hr
 have HL := hiD hl
 clear hr hl
 cases A with
 | none =>
   exact tZ47
 | some a =>
   obtain ⟨i0, hi, hz0, hz1, hz2⟩ := info_parts info66
   go_enter Tryz.func101, Tryz.ntmps101
   go_wp2_with (at_builtin; refine wpList_app rfl _ _ 25 rfl w.heap.size 66 i0 _ 15 120 Tryz.underlying25 hi hz0 hz1 hz2 rfl (by decide) _ _ _ rfl (World.ownsRow_made w #[] 0 (Nat.le_refl _) (Nat.zero_le _) rfl) a len c (rcells xs) rfl ?qc1 ?qc2 ?qc3 ?qc4 ?qc5 ?qc6 ?_)
   case qc1 => rw [rcells_len, HL.out]
   case qc2 =>
    exact tZ50
   case qc3 => exact rcells_one xs
   case qc4 => unfold maxLen; omega
   case qc5 => omega
   case qc6 => simp
   intro v' w1 hown hgrow hdr hnil
   have hne : v' ≠ .slice none 0 0 := fun h => hnil h
   have hg : Gr w w1 := Gr.grown ((Gr.refl w).alloc _) hgrow (by intro k hk; simp [Value.ownBlock] at hk; omega) hdr
   have HO := hiD hown
   clear hown hgrow hdr hnil
   rcases HO.out.2 with ⟨h0, _⟩ | ⟨g, cap, cur, rfl, hb, hgc, hc, _, hs, ht⟩
   ·exact absurd h0 hne
   clear hgc hs ht
   go_wp2
   go_ret
   refine ⟨hg, some ⟨g, 0, none⟩, cap, rfl, fun hx => ?_⟩
   obtain ⟨h1, g', c', h2, h3, h4⟩ := Held.of_own HO.out hx
   obtain ⟨rfl⟩ : g = g' := by injection h2 with h2; injection h2 with h2; injection h2
   exact ⟨g, rfl, h3, h4⟩
set_option maxHeartbeats 1000000 in
set_option maxRecDepth 100000 in
theorem ins00_call (A : Option Addr) (c : Nat) (fv : Value) (W : World) : Calls Tryz.prog 180 #[.slice A 0 c, .int .i64 0, .int .i64 0, fv] W fun e w' => e = .returned (.tuple #[]) ∧ w' = W := by
 go_enter Tryz.func180, Tryz.ntmps180
 go_wp2
 go_loopw [8] (fun i w' => i = .int .i64 1 ∧ w' = W) (fun i _ => 0)
 case atStart => exact ⟨rfl, rfl⟩
 case round =>
  obtain ⟨rfl, rfl⟩ := hrel
  go_wp2
  go_end0
  exact ⟨rfl, rfl⟩
set_option maxHeartbeats 1000000 in
set_option maxRecDepth 100000 in
theorem stable0_call (A : Option Addr) (c : Nat) (fv : Value) (W : World) :
 Calls Tryz.prog 157 #[.slice A 0 c, .int .i64 0, fv] W fun e w' => e = .returned (.tuple #[]) ∧ w' = W := by
 have HI := hiD (ins00_call A c fv)
 go_enter Tryz.func157, Tryz.ntmps157
 go_wp2
 go_loopw [7, 8] (fun i j w' => i = .int .i64 0 ∧ j = .int .i64 20 ∧ Hid (w' = W)) (fun _ _ _ => 0)
 case atStart => exact ⟨rfl, rfl, rfl⟩
 case round =>
  obtain ⟨rfl, rfl, hw⟩ := hrel
  go_wp2_with fail
  refine (HI.out _).mono ?_
  rintro e w2 ⟨rfl, rfl⟩
  go_wp2
  go_loopw [6] (fun i w' => i = .int .i64 20 ∧ Hid (w' = W)) (fun i _ => 0)
  case atStart => exact ⟨rfl, hw⟩
  case round =>
   obtain ⟨rfl, hw⟩ := hrel
   go_wp2
   go_end0
   exact ⟨rfl, hw.out⟩
set_option maxHeartbeats 1000000 in
set_option maxRecDepth 100000 in
theorem sort0_call (A : Option Addr) (c : Nat) (fv : Value) (W : World) :
 Calls Tryz.prog 110 #[.slice A 0 c, fv] W fun e w' => e = .returned (.tuple #[]) ∧ w' = W := by
 have HI := hiD (stable0_call A c fv W)
 go_enter Tryz.func110, Tryz.ntmps110
 go_wp2_with fail
 refine HI.out.mono ?_
 rintro e w' ⟨rfl, rfl⟩
 go_wp2
 go_end0
 exact ⟨rfl, rfl⟩
set_option maxHeartbeats 1000000 in
set_option maxRecDepth 100000 in
theorem sorted_call (S : PB → Prop) (g : FuncId) (lb : Array Value) (cf : PB → PB → Int) (hO : Ord S cf) (A : Option Addr) (c : Nat) (xs : List PB) (w : World) (hC : ∀ w' n, Gr w w' → w.heap.size ≤ n → Cmp w' n S g lb cf) (hS : ∀ x ∈ xs, S x) (hr : BoxRow w A (xs.map raw)) (len : Nat) (hl : xs.length = len) (hlen : len ≤ 1000000) :
 Calls Tryz.prog 51 #[.agg #[.func (.func g) #[] lb], .slice A len c] w fun e w' => Gr w w' ∧ ∃ A' c' ys, e = .returned (.slice A' len c') ∧ ys.Perm xs ∧ Srt cf ys ∧ BoxRow w' A' (ys.map raw) ∧ (xs ≠ [] → ∃ g, A' = some ⟨g, 0, none⟩ ∧ w.heap.size ≤ g) := by
 have HC := hiD hC
 have HS := hiD hS
 have HL := hiD hl
 have hcl := fun w' (hg : Gr w w') => clone_call A c xs w' (hr.gr hg) len hl hlen
 have HCL := hiD hcl
 clear hC hS hl hr hcl
 go_enter Tryz.func51, Tryz.ntmps51
 go_wp2_with fail
 refine (HCL.out _ ((Gr.refl w).alloc _)).mono ?_
 rintro e w1 ⟨hg, A', c', rfl, hown⟩
 have hg1 : Gr w w1 := ((Gr.refl w).alloc _).trans hg
 have hc1 : w1.cell? ⟨w.heap.size, 0, none⟩ = some (.func (.func g) #[] lb) := hg.cell (by go_simp)
 have HO := hiD hown
 clear hown
 go_wp2_with fail
 rcases Nat.eq_zero_or_pos len with h0 | h0
 ·subst h0
  obtain rfl : xs = [] := List.eq_nil_of_length_eq_zero HL.out
  refine (sort0_call _ _ _ _).mono ?_
  rintro e w2 ⟨rfl, rfl⟩
  go_wp2
  go_ret
  exact ⟨hg1, A', c', [], rfl, List.Perm.refl _, srt_nil, ⟨by simp, fun j x hx => by simp at hx⟩, fun h => absurd rfl h⟩
 ·have hne : xs ≠ [] := fun h => by have := HL.out; rw [h] at this; simp at this; omega
  obtain ⟨n, rfl, hn, hH⟩ := HO.out hne
  have hb : w.heap.size ≤ n := by simp at hn; omega
  have hs := sortStable_call w1 n c' S g lb cf (HC.out w1 n hg1 hb) hO xs w1 hH HS.out len HL.out hlen
  have HST := hiD hs
  clear hs
  refine HST.out.mono ?_
  rintro e w2 ⟨rfl, ys, h1, h2, h3⟩
  have H3 := hiD h3
  clear h3
  go_wp2
  go_ret
  exact ⟨H3.out.to_gr hg1 hb, _, c', ys, rfl, h1, h2, H3.out.boxRow (by rw [h1.length_eq, HL.out]; omega), fun _ => ⟨n, rfl, hb⟩⟩
theorem ltb1 {b s x1 : Nat} (h : b < s) : (b < s + x1) = True := eq_true (by omega)
theorem ltb2 {b s x1 x2 : Nat} (h : b < s) : (b < s + x1 + x2) = True := eq_true (by omega)
theorem ltb3 {b s x1 x2 x3 : Nat} (h : b < s) : (b < s + x1 + x2 + x3) = True := eq_true (by omega)
theorem ltb4 {b s x1 x2 x3 x4 : Nat} (h : b < s) : (b < s + x1 + x2 + x3 + x4) = True := eq_true (by omega)
theorem ltb5 {b s x1 x2 x3 x4 x5 : Nat} (h : b < s) : (b < s + x1 + x2 + x3 + x4 + x5) = True := eq_true (by omega)
theorem ltb6 {b s x1 x2 x3 x4 x5 x6 : Nat} (h : b < s) : (b < s + x1 + x2 + x3 + x4 + x5 + x6) = True := eq_true (by omega)
theorem ltb7 {b s x1 x2 x3 x4 x5 x6 x7 : Nat} (h : b < s) : (b < s + x1 + x2 + x3 + x4 + x5 + x6 + x7) = True := eq_true (by omega)
theorem ltb8 {b s x1 x2 x3 x4 x5 x6 x7 x8 : Nat} (h : b < s) : (b < s + x1 + x2 + x3 + x4 + x5 + x6 + x7 + x8) = True := eq_true (by omega)
theorem ltb9 {b s x1 x2 x3 x4 x5 x6 x7 x8 x9 : Nat} (h : b < s) : (b < s + x1 + x2 + x3 + x4 + x5 + x6 + x7 + x8 + x9) = True := eq_true (by omega)
theorem ltb10 {b s x1 x2 x3 x4 x5 x6 x7 x8 x9 x10 : Nat} (h : b < s) : (b < s + x1 + x2 + x3 + x4 + x5 + x6 + x7 + x8 + x9 + x10) = True := eq_true (by omega)
theorem sC : type_of% (And.intro @ltb1 (And.intro @ltb2 (And.intro @ltb3 (And.intro @ltb4 (And.intro @ltb5 (And.intro @ltb6 (And.intro @ltb7 (And.intro @ltb8 (And.intro @ltb9 @ltb10))))))))) := ⟨@ltb1, @ltb2, @ltb3, @ltb4, @ltb5, @ltb6, @ltb7, @ltb8, @ltb9, @ltb10⟩
attribute [local go_sem] sC
set_option maxHeartbeats 1000000 in
theorem begins_call (ac : Bool) (w : World) : Calls Tryz.prog 84 #[.bool ac] w fun e w' => Gr w w' ∧ ∃ b, e = .returned (.agg #[.func (.func 143) #[] #[.pointer (some ⟨b, 0, none⟩)]]) ∧ w.heap.size ≤ b ∧ w'.cell? ⟨b, 0, none⟩ = some (.bool ac) := by
 go_enter Tryz.func84, Tryz.ntmps84
 go_wp2
 refine bodyPost_ret (res_cell Tryz.isAgg99 Tryz.sizeOf99 Tryz.results84 rfl ?_) rfl ⟨?_, w.heap.size, rfl, Nat.le_refl _, ?_⟩
 ·go_simp
 ·exact (((Gr.refl w).alloc _).alloc _)
 ·go_simp
theorem tZ120 {P : Prop} (h : P := by
 refine wpQuiet_nil ?_
 rintro w' ⟨⟨nq, osq⟩, rfl⟩
 exact tZ92) : P := h
set_option maxHeartbeats 1000000 in
theorem begins1_call (ac : Bool) (x y : PB) (hx : vld (fr ac x) = true) (hy : vld (fr ac y) = true) (b : Nat) (w : World) (hc : w.cell? ⟨b, 0, none⟩ = some (.bool ac)) :
 Calls Tryz.prog 143 #[pv x, pv y, .pointer (some ⟨b, 0, none⟩)] w fun e w' => e = .returned (.int .i64 (cmpR (fr ac x) (fr ac y))) ∧ Gr w w' := by
 have hb : b < w.heap.size := lcc w _ hc
 have h1 := from_call x ac
 have h2 := from_call y ac
 have h3 := compare_v hx hy
 go_enter Tryz.func143, Tryz.ntmps143
 go_wp2_with fail
 refine tail_grown 7 (by kernel_rfl) ?_
 simp only [List.take_succ_cons, List.take_zero, List.drop_succ_cons, List.drop_zero]
 repeat (go_big_quiet_step ((first | (go_at_call 40; first | (with_reducible exact h1.quiet) | (with_reducible exact h2.quiet)) | (go_at_call 44; exact h3.quiet))))
 exact tZ120
end Go.Proofs.OGW
namespace Go.Proofs.OGW
open Go.RowKit Go.Sort OG Go.Shelf
theorem append_loc {P : Program} {w w' : World} {base : Nat} {t ty e : TypeId} {i : TypeInfo} {z : Value} {size bytes : Nat} (ht : P.underlying t = some (.slice e)) (hi : P.info? e = some i) (hz : i.zero = some z)
 (hsize : i.size = size) (hby : i.bytes = bytes) (hsz : 0 < size) {v v' : Value} {n : Nat} {xs : List Value} (hown : w.ownsRow base e size v n xs)
 {a : Addr} {m c : Nat} {news : List Value} (hl : news.length = m * size) (hnews : ∀ j u, news[j]? = some u → w.cell? (a.add j) = some u) (h1 : ∀ u ∈ news, u.oneCell' = true)
 (h63 : n + m ≤ maxLen) (hbytes : (n + m) * bytes ≤ 140737488355328) (hr : (Builtin.append_ #[t, t] ty #[v, .slice (some a) m c]).run P w = .ok v' w') :
 v'.ownBlock = v.ownBlock ∨ ∀ k, v'.ownBlock = some k → w.heap.size ≤ k := by
 subst hsize
 subst hby
 have hsmall : n + m ≤ 9223372036854775807 := by simp only [maxLen] at h63; omega
 rcases hown.2 with ⟨rfl, rfl⟩ | ⟨g, cap, cur, rfl, hbg, hg, hnc, hcm, hcs, htake⟩
 ·by_cases hm : m = 0
  ·subst hm
   have hn : news = [] := List.eq_nil_of_length_eq_zero (by simpa using hl)
   subst hn
   have : (Builtin.append_ #[t, t] ty #[.slice none 0 0, .slice (some a) 0 c]).run P w = .ok (.slice none 0 0) w := by
    exact tZ122
   rw [this] at hr
   injection hr with h _
   rw [← h]; exact .inl rfl
  ·have h := run_append_nil (P := P) w t ty e i z ht hi hz a m c news hl hnews (by omega) (by omega) (by have hb := hbytes; simp only [Nat.zero_add] at hb; omega)
   rw [h] at hr
   injection hr with h _
   rw [← h]
   exact .inr fun k hk => by simp [Value.ownBlock] at hk; omega
 ·by_cases hroom : n + m ≤ cap
  ·have hfit : n * i.size + news.length ≤ cur.size := by rw [hl, hcs, ← Nat.add_mul]; exact Nat.mul_le_mul_right _ hroom
   have h := run_append_room (P := P) w t ty e i ht hi g n cap cur hg a m c news hl hnews h1 hroom hfit
   rw [h] at hr
   injection hr with h _
   rw [← h]; exact .inl rfl
  ·have holds : ∀ j u, xs[j]? = some u → w.cell? ((⟨g, 0, none⟩ : Addr).add j) = some u := hown.cells (g := g) rfl
   have h := run_append_grow (P := P) w t ty e i z ht hi hz ⟨g, 0, none⟩ n cap xs hown.1 holds a m c news hl hnews (by omega) (by omega) (growslice_fits (by omega) hbytes)
   rw [h] at hr
   injection hr with h _
   rw [← h]
   exact .inr fun k hk => by simp [Value.ownBlock] at hk; omega
theorem wpList_app2 {P : Program} {w : World} {ops : Array Oper} {rest : List Oper} {o : Oper} {a : Act} {Q : Exit → Act → World → Prop} (hgd : o.guard = none) (s x : Operand) (t : TypeId)
 (ho : o.op = .call { callee := .builtin .append, args := #[s, x], argTypes := #[t, t] })
 (base : Nat) (e : TypeId) (i : TypeInfo) (z : Value) (size bytes : Nat) (ht : P.underlying t = some (.slice e)) (hi : P.info? e = some i) (hz : i.zero = some z)
 (hsize : i.size = size) (hby : i.bytes = bytes) (hzs : z.cells.size = size) (hsz : 0 < size)
 (v : Value) (n : Nat) (xs : List Value) (hs : a.eval s = v) (hown : w.ownsRow base e size v n xs)
 (ad : Addr) (m c : Nat) (news : List Value) (hx : a.eval x = .slice (some ad) m c) (hl : news.length = m * size) (hnews : ∀ j u, news[j]? = some u → w.cell? (ad.add j) = some u) (h1 : ∀ u ∈ news, u.oneCell' = true)
 (h63 : n + m ≤ maxLen) (hbytes : (n + m) * bytes ≤ 140737488355328) (hbase : base ≤ w.heap.size)
 (h : ∀ v' w', Hid (w'.ownsRow base e size v' (n + m) (xs ++ news)) → Hid (w.grownBy w' v.ownBlock) → Hid (w.drawn ≤ w'.drawn) → Hid (v'.ownBlock = v.ownBlock ∨ ∀ k, v'.ownBlock = some k → w.heap.size ≤ k) → wpList P ops Q rest (a.put o.dst v') w') : wpList P ops Q (o :: rest) a w := by
 refine wpList_plain hgd fun _ hK => ?_
 obtain ⟨v', w', hr, h2, h3, h4⟩ := run_append_own (P := P) w base t o.type e i z size bytes ht hi hz hsize hby hzs hsz v n xs hown ad m c news hl hnews h1 h63 hbytes hbase
 have h5 := append_drawn ht hi hz hsize hby hsz hown hl hnews h1 h63 hbytes hr
 have h6 := append_loc ht hi hz hsize hby hsz hown hl hnews h1 h63 hbytes hr
 unfold Oper.wp execOp
 simp only [ho, resolve, invoke, builtin, Sem.run_bind, Sem.run_pure, Result.andThen_ok, List.map_toArray, List.map_cons, List.map_nil, hs, hx, hr]
 exact hK _ _ (h v' w' h2 h3 h5 h6)
structure Upto (w0 : World) (n8 : Nat) (w : World) : Prop where
 os : w.os = w0.os
 tape : w.tape = w0.tape
 output : w.output = w0.output
 drawn : w0.drawn ≤ w.drawn
 size : w0.heap.size ≤ w.heap.size
 keep : ∀ k, k < w0.heap.size → k ≠ n8 → w.heap[k]? = w0.heap[k]?
theorem Upto.refl (w : World) (n8 : Nat) : Upto w n8 w := ⟨rfl, rfl, rfl, Nat.le_refl _, Nat.le_refl _, fun _ _ _ => rfl⟩
theorem Upto.gr {w0 w w' : World} {n8 : Nat} (h : Upto w0 n8 w) (hg : Gr w w') : Upto w0 n8 w' :=
 ⟨hg.b.os.trans h.os, hg.b.tape.trans h.tape, hg.b.output.trans h.output, Nat.le_trans h.drawn hg.d, Nat.le_trans h.size hg.b.size, fun k hk hne => (hg.b.block k (Nat.lt_of_lt_of_le hk h.size)).trans (h.keep k hk hne)⟩
theorem Upto.grown {w0 w w' : World} {n8 : Nat} {row : Option Nat} (h : Upto w0 n8 w) (hg : w.grownBy w' row) (hr : ∀ k, row = some k → w0.heap.size ≤ k) (hd : w.drawn ≤ w'.drawn) : Upto w0 n8 w' :=
 ⟨hg.os.trans h.os, hg.tape.trans h.tape, hg.output.trans h.output, Nat.le_trans h.drawn hd, Nat.le_trans h.size hg.size,
   fun k hk hne => (hg.block k (Nat.lt_of_lt_of_le hk h.size) (fun e => by have := hr k e.symm; omega)).trans (h.keep k hk hne)⟩
theorem setCell_other (w : World) (n i k : Nat) (v : Value) (h : k ≠ n) : (w.setCell ⟨n, i, none⟩ v).heap[k]? = w.heap[k]? := by
 exact heap_setCell_other w ⟨n, i, none⟩ k v h
theorem setCell_size (w : World) (a : Addr) (v : Value) : (w.setCell a v).heap.size = w.heap.size := by
 unfold World.setCell
 split <;> simp
theorem setCell_rest (w : World) (a : Addr) (v : Value) : (w.setCell a v).os = w.os ∧ (w.setCell a v).tape = w.tape ∧ (w.setCell a v).output = w.output ∧ (w.setCell a v).drawn = w.drawn := by
 unfold World.setCell
 split <;> exact ⟨rfl, rfl, rfl, rfl⟩
theorem setCell_by (w : World) (n i : Nat) (v : Value) : w.grownBy (w.setCell ⟨n, i, none⟩ v) (some n) := by
 obtain ⟨h1, h2, h3, _⟩ := setCell_rest w ⟨n, i, none⟩ v
 exact ⟨h1, h2, h3, by rw [setCell_size]; exact Nat.le_refl _, fun k _ hne => setCell_other w n i k v (fun e => hne (by rw [e]))⟩
theorem Upto.setCell {w0 w : World} {n8 : Nat} (h : Upto w0 n8 w) (n i : Nat) (v : Value) (hn : n = n8 ∨ w0.heap.size ≤ n) : Upto w0 n8 (w.setCell ⟨n, i, none⟩ v) := by
 obtain ⟨h1, h2, h3, h4⟩ := setCell_rest w ⟨n, i, none⟩ v
 exact ⟨h1.trans h.os, h2.trans h.tape, h3.trans h.output, by rw [h4]; exact h.drawn, by rw [setCell_size]; exact h.size,
  fun k hk hne => (setCell_other w n i k v (by omega)).trans (h.keep k hk hne)⟩
theorem Upto.to_gr {w w0 w' : World} {n8 : Nat} (h : Upto w0 n8 w') (hg : Gr w w0) (hn : w.heap.size ≤ n8) : Gr w w' where
 b := ⟨h.os.trans hg.b.os, h.tape.trans hg.b.tape, h.output.trans hg.b.output, Nat.le_trans hg.b.size h.size, fun k hk => (h.keep k (Nat.lt_of_lt_of_le hk hg.b.size) (by omega)).trans (hg.b.block k hk)⟩
 d := Nat.le_trans hg.d h.drawn
theorem Upto.cell {w0 w : World} {n8 : Nat} (h : Upto w0 n8 w) {n i : Nat} {v : Value} (hne : n ≠ n8) (hc : w0.cell? ⟨n, i, none⟩ = some v) : w.cell? ⟨n, i, none⟩ = some v :=
 (World.cell?_of_block (h.keep n (lcc w0 _ hc) hne)).trans hc
structure NestH (w : World) (B : Nat) (v : Value) (hs : List Value) (parts : List (List PB)) : Prop where
 out : w.ownsRow B 25 1 v parts.length hs
 inn : ∀ (k : Nat) (h : Value) (p : List PB), hs[k]? = some h → parts[k]? = some p → w.ownsRow B 66 15 h p.length (rcells p) ∧ (h.ownBlock = none ∨ h.ownBlock ≠ v.ownBlock)
 apart : ∀ (k l : Nat) (h h' : Value), k ≠ l → hs[k]? = some h → hs[l]? = some h' → h.ownBlock = none ∨ h.ownBlock ≠ h'.ownBlock
theorem NestH.len {w : World} {B : Nat} {v : Value} {hs : List Value} {parts : List (List PB)} (h : NestH w B v hs parts) : hs.length = parts.length := by have := h.out.1; omega
theorem NestH.nil (w : World) (B : Nat) : NestH w B (.slice none 0 0) [] [] := ⟨World.ownsRow_nil w B 25 1, fun k h p hk => by simp at hk, fun k l h h' _ hk => by simp at hk⟩
theorem NestH.kept {w w' : World} {B : Nat} {v : Value} {hs : List Value} {parts : List (List PB)} {row : Option Nat} (h : NestH w B v hs parts) (hg : w.grownBy w' row) (hr : ∀ k, row = some k → k < B ∨ w.heap.size ≤ k) : NestH w' B v hs parts := by
 have ne : ∀ {x : Value} {e : TypeId} {sz n : Nat} {xs : List Value}, w.ownsRow B e sz x n xs → x.ownBlock = none ∨ x.ownBlock ≠ row := by
  intro x e sz n xs hx
  cases hb : x.ownBlock with
  | none => exact .inl rfl
  | some k =>
    have := hx.lt k hb
    exact .inr fun e => by have := hr k e.symm; omega
 exact ⟨h.out.kept hg (ne h.out), fun k x p h1 h2 => by obtain ⟨a, b⟩ := h.inn k x p h1 h2; exact ⟨a.kept hg (ne a), b⟩, h.apart⟩
theorem Gr.by {w w' : World} (h : Gr w w') : w.grownBy w' none := ⟨h.b.os, h.b.tape, h.b.output, h.b.size, fun k hk _ => h.b.block k hk⟩
theorem NestH.gr {w w' : World} {B : Nat} {v : Value} {hs : List Value} {parts : List (List PB)} (h : NestH w B v hs parts) (hg : Gr w w') : NestH w' B v hs parts := h.kept hg.by (by simp)
theorem NestH.push {w w' : World} {B : Nat} {v v' : Value} {hs : List Value} {parts : List (List PB)} (h : NestH w B v hs parts) (ho : w'.ownsRow B 25 1 v' (parts.length + 1) (hs ++ [.slice none 0 0])) (hg : w.grownBy w' v.ownBlock)
 (hl : v'.ownBlock = v.ownBlock ∨ ∀ k, v'.ownBlock = some k → w.heap.size ≤ k) : NestH w' B v' (hs ++ [.slice none 0 0]) (parts ++ [[]]) := by
 have hln := h.len
 refine ⟨by simpa using ho, ?_, ?_⟩
 ·intro k x p h1 h2
  rcases Nat.lt_or_ge k hs.length with hk | hk
  ·rw [List.getElem?_append_left hk] at h1
   rw [List.getElem?_append_left (by omega)] at h2
   obtain ⟨a, b⟩ := h.inn k x p h1 h2
   refine ⟨a.kept hg b, ?_⟩
   cases hb : x.ownBlock with
   | none => exact .inl rfl
   | some g =>
     right
     rw [hb] at b
     rcases hl with e | e
     ·rw [e]; simpa using b
     ·intro e2
      have := (a.lt g hb).2
      have := e g e2.symm
      omega
  ·rw [List.getElem?_append_right hk] at h1
   rw [List.getElem?_append_right (by omega)] at h2
   obtain ⟨k0, rfl⟩ : ∃ m, k = hs.length + m := ⟨k - hs.length, by omega⟩
   have : k0 = 0 := by
    rcases Nat.eq_zero_or_pos k0 with h | h
    ·exact h
    ·rw [show hs.length + k0 - hs.length = k0 by omega] at h1
     have := (gO h1).1
     simp at this; omega
   subst this
   simp at h1
   rw [← hln] at h2
   simp at h2
   subst h1 h2
   exact ⟨World.ownsRow_nil _ _ _ _, .inl rfl⟩
 ·intro k l x y hkl h1 h2
  rcases Nat.lt_or_ge k hs.length with hk | hk
  ·rw [List.getElem?_append_left hk] at h1
   rcases Nat.lt_or_ge l hs.length with hk' | hk'
   ·rw [List.getElem?_append_left hk'] at h2
    exact h.apart k l x y hkl h1 h2
   ·rw [List.getElem?_append_right hk'] at h2
    have : y = .slice none 0 0 := by have := List.mem_of_getElem? h2; simpa using this
    subst this
    cases x.ownBlock with
    | none => exact .inl rfl
    | some g => exact .inr (by simp [Value.ownBlock])
  ·rw [List.getElem?_append_right hk] at h1
   have : x = .slice none 0 0 := by have := List.mem_of_getElem? h1; simpa using this
   subst this
   exact .inl rfl
theorem list_last {α : Type} {l : List α} {n : Nat} (h : l.length = n + 1) : ∃ m x, l = m ++ [x] ∧ m.length = n := by
 rcases List.eq_nil_or_concat l with rfl | ⟨m, x, rfl⟩
 ·simp at h
 ·rw [List.concat_eq_append] at h ⊢
  exact ⟨m, x, rfl, by simpa using h⟩
theorem NestH.last {w w1 : World} {B g c : Nat} {h h' : Value} {hs : List Value} {parts : List (List PB)} {p q : List PB} (hN : NestH w B (.slice (some ⟨g, 0, none⟩) (parts.length + 1) c) (hs ++ [h]) (parts ++ [p]))
 (ho : w1.ownsRow B 66 15 h' q.length (rcells q)) (hg : w.grownBy w1 h.ownBlock) (hl : h'.ownBlock = h.ownBlock ∨ ∀ k, h'.ownBlock = some k → w.heap.size ≤ k) (h1c : h'.oneCell' = true) :
 NestH (w1.setCell ⟨g, parts.length, none⟩ h') B (.slice (some ⟨g, 0, none⟩) (parts.length + 1) c) (hs ++ [h']) (parts ++ [q]) := by
 have hln : hs.length = parts.length := by have := hN.len; simpa using this
 have hlast : h.ownBlock = none ∨ h.ownBlock ≠ some g := (hN.inn hs.length h p (by simp) (by rw [hln]; simp)).2
 have hout : w.ownsRow B 25 1 (.slice (some ⟨g, 0, none⟩) (parts.length + 1) c) (parts.length + 1) (hs ++ [h]) := by have := hN.out; simpa using this
 have hgw := hout.lt g rfl
 have hne' : h'.ownBlock = none ∨ h'.ownBlock ≠ some g := by
  rcases hl with e | e
  ·rw [e]; exact hlast
  ·cases hb : h'.ownBlock with
   | none => exact .inl rfl
   | some k => exact .inr fun e2 => by injection e2 with e2; have := e k hb; omega
 have hout1 := hout.kept hg (.inr (by rcases hlast with e | e; (rw [e]; simp [Value.ownBlock]); exact Ne.symm e))
 have hst := (hout1.stored parts.length h').1
 have e2 : (hs ++ [h]).set parts.length h' = hs ++ [h'] := by rw [← hln]; simp
 have by2 := setCell_by w1 g parts.length h'
 refine ⟨?_, ?_, ?_⟩
 ·have := hst
  rw [e2] at this
  simpa using this
 ·intro k x r h1 h2
  rcases Nat.lt_or_ge k hs.length with hk | hk
  ·rw [List.getElem?_append_left hk] at h1
   rw [List.getElem?_append_left (by omega)] at h2
   obtain ⟨a, b⟩ := hN.inn k x r (by rw [List.getElem?_append_left hk]; exact h1) (by rw [List.getElem?_append_left (by omega)]; exact h2)
   have hap := hN.apart k hs.length x h (by omega) (by rw [List.getElem?_append_left hk]; exact h1) (by simp)
   exact ⟨(a.kept hg hap).kept by2 (by simpa [Value.ownBlock] using b), b⟩
  ·have hk0 : k = hs.length := by have := (gO h1).1; simp at this; omega
   subst hk0
   simp at h1
   rw [hln] at h2
   simp at h2
   subst h1 h2
   exact ⟨ho.kept by2 hne', by simpa [Value.ownBlock] using hne'⟩
 ·intro k l x y hkl h1 h2
  have fresh : ∀ (m : Nat) (u : Value), m < hs.length → hs[m]? = some u → (u.ownBlock = none ∨ u.ownBlock ≠ h'.ownBlock) ∧ (h'.ownBlock = none ∨ h'.ownBlock ≠ u.ownBlock) := by
   intro m u hm hu
   have hap := hN.apart m hs.length u h (by omega) (by rw [List.getElem?_append_left hm]; exact hu) (by simp)
   have hap2 := hN.apart hs.length m h u (by omega) (by simp) (by rw [List.getElem?_append_left hm]; exact hu)
   rcases hl with e | e
   ·rw [e]; exact ⟨hap, hap2⟩
   ·have : m < parts.length := by omega
    obtain ⟨a, _⟩ := hN.inn m u parts[m] (by rw [List.getElem?_append_left hm]; exact hu) (by rw [List.getElem?_append_left this]; simp [this])
    cases hb : h'.ownBlock with
    | none => exact ⟨by cases u.ownBlock <;> simp, .inl rfl⟩
    | some k =>
      have h3 := e k hb
      have : u.ownBlock ≠ some k := fun e2 => by have := (a.lt k e2).2; omega
      exact ⟨.inr this, .inr (Ne.symm this)⟩
  rcases Nat.lt_or_ge k hs.length with hk | hk
  ·rw [List.getElem?_append_left hk] at h1
   rcases Nat.lt_or_ge l hs.length with hk' | hk'
   ·rw [List.getElem?_append_left hk'] at h2
    exact hN.apart k l x y hkl (by rw [List.getElem?_append_left hk]; exact h1) (by rw [List.getElem?_append_left hk']; exact h2)
   ·have hk0 : l = hs.length := by have := (gO h2).1; simp at this; omega
    subst hk0
    simp at h2
    subst h2
    exact (fresh k x hk h1).1
  ·have hk0 : k = hs.length := by have := (gO h1).1; simp at this; omega
   subst hk0
   simp at h1
   subst h1
   rw [List.getElem?_append_left (by have := (gO h2).1; simp at this; omega)] at h2
   exact (fresh l y (by have := (gO h2).1; exact this) h2).2
def PartAt (w : World) (b o : Nat) (p : List PB) : Prop := ∃ A c, w.cell? ⟨b, o, none⟩ = some (.slice A p.length c) ∧ BoxRow w A (p.map raw)
theorem PartAt.gr {w w' : World} {b o : Nat} {p : List PB} (hg : Gr w w') (h : PartAt w b o p) : PartAt w' b o p := by obtain ⟨A, c, h1, h2⟩ := h; exact ⟨A, c, hg.cell h1, h2.gr hg⟩
abbrev PartRow (w : World) (A : Option Addr) (ps : List (List PB)) : Prop := Row 1 PartAt w A ps
theorem PartRow.gr {w w' : World} {A : Option Addr} {ps : List (List PB)} (h : PartRow w A ps) (hg : Gr w w') : PartRow w' A ps := Row.mono h fun _ _ _ => PartAt.gr hg
theorem own_boxRow {w : World} {B : Nat} {v : Value} {p : List PB} (h : w.ownsRow B 66 15 v p.length (rcells p)) (hl : p.length ≤ 140737488355328) : ∃ A c, v = .slice A p.length c ∧ BoxRow w A (p.map raw) := by
 cases p with
 | nil =>
   rcases h.2 with ⟨rfl, _⟩ | ⟨g, cap, cur, rfl, _⟩
   ·exact ⟨none, 0, rfl, by simp, fun j x hx => by simp at hx⟩
   ·exact ⟨_, cap, rfl, by simp, fun j x hx => by simp at hx⟩
 | cons x p =>
   obtain ⟨_, g, c, rfl, hb, hH⟩ := Held.of_own h (by simp)
   exact ⟨_, c, rfl, hH.boxRow hl⟩
theorem NestH.read {w : World} {B : Nat} {v : Value} {hs : List Value} {parts : List (List PB)} (h : NestH w B v hs parts) (hp : parts.length ≤ 140737488355328) (hq : ∀ p ∈ parts, p.length ≤ 140737488355328) : ∃ A c, v = .slice A parts.length c ∧ PartRow w A parts := by
 have hl := h.len
 rcases h.out.2 with ⟨rfl, h0⟩ | ⟨g, cap, cur, rfl, hb, hg, h1, h2, h3, h4⟩
 ·have : parts = [] := List.eq_nil_of_length_eq_zero h0
  subst this
  exact ⟨none, 0, rfl, by simp, fun j x hx => by simp at hx⟩
 ·refine ⟨_, cap, rfl, hp, fun j p hp => ?_⟩
  have hj : j < hs.length := by have := (gO hp).1; omega
  have hh := gE hj
  obtain ⟨A, c, e, hr⟩ := own_boxRow (h.inn j hs[j] p hh hp).1 (hq p (List.mem_of_getElem? hp))
  have hc := h.out.cells (g := g) rfl j hs[j] hh
  rw [Addr.add_lit] at hc
  rw [e] at hc
  exact ⟨g, 0, rfl, A, c, by simpa using hc, hr⟩
end Go.Proofs.OGW
