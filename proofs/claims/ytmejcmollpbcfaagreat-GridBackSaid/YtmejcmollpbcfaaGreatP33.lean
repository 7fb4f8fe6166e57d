import Derived.Test.YtmejcmollpbcfaaGreatP15
import Derived.Test.YtmejcmollpbcfaaGreatP32
set_option linter.all false
namespace Go.Proofs.OGW
open Go.RowKit Go.Sort OG Go.Shelf Go.PlainAid
attribute [local go_sem] sA fv sB sG sC Nat.zero_add
attribute [local go_sem ↓] ld66 ld51 st66 st51
theorem tZ17 {P : Prop} (h : P := by
 obtain ⟨n0, r, rfl⟩ : ∃ n0 r, ns = n0 :: r := by cases ns with | nil => exact absurd rfl hne | cons a r => exact ⟨a, r, rfl⟩
 obtain ⟨b, o, rfl, _⟩ := h.2 0 n0 rfl
 refine ⟨b, o, rfl, fun j u hu => ?_⟩
 have hj : j < (n0 :: r).length * 8 := by have := (gO hu).1; rw [ndc_len] at this; exact this
 obtain ⟨x, hx⟩ : ∃ x, (n0 :: r)[j / 8]? = some x := ⟨_, gE (by omega)⟩
 have hg := ndc_get hx (show j % 8 < 8 by omega)
 rw [show j / 8 * 8 + j % 8 = j by omega, hu] at hg
 obtain ⟨b', o', e, k⟩ := h.2 (j / 8) x hx
 cases e
 have := rowV_cell k (j % 8) u (by simpa [nv, ncl] using hg.symm)
 rw [← this]
 congr 2
 omega) : P := h
theorem nodes_cells2 {w : World} {A : Option Addr} {ns : List Nd} (h : NdRow w A ns) (hne : ns ≠ []) : ∃ b o, A = some ⟨b, o, none⟩ ∧ ∀ (j : Nat) (u : Value), (ndc ns)[j]? = some u → w.cell? ⟨b, o + j, none⟩ = some u := by
 exact tZ17
theorem own_made (w : World) (x y : Obj) : OwnN (((w.alloc x).alloc y).alloc (.cells #[] 51)) (w.heap.size + 2) (.slice (some ⟨w.heap.size + 2, 0, none⟩) 0 0) [] := by
 have h := World.ownsRow_made ((w.alloc x).alloc y) (e := 51) (size := 8) #[] 0 (Nat.le_refl _) (Nat.zero_le _) rfl
 have e : ((w.alloc x).alloc y).heap.size = w.heap.size + 2 := by simp
 rw [e] at h
 exact ⟨rfl, h.2.imp id fun ⟨g, cap, cur, e, hb, rest⟩ => ⟨g, cap, cur, e, by omega, rest⟩⟩
theorem res_one33 {fn : Func} {p : Tmp} (h : fn.results = #[.cell p 33]) {tmps : Array Value} {w : World} {n : Nat} {v : Value}
 (hp : tmps.getD p undef = .pointer (some ⟨n, 0, none⟩)) (hv : w.cell? ⟨n, 0, none⟩ = some v) : (results fn tmps).run Tryz.prog w = .ok (.agg #[v]) w :=
 res_cell Tryz.isAgg33 Tryz.sizeOf33 h hp (rowV_of rfl fun j x hx => by
  cases j with
  | zero => simp at hx; subst hx; exact hv
  | succ j => simp at hx)
theorem tZ72 {P : Prop} (h : P := by
 go_wp2
 refine bodyPost_ret (res_one33 Tryz.results73 rfl (v := .slice (some ⟨w.heap.size + 2, 0, none⟩) 0 0) (by go_simp)) rfl ⟨_, rfl, OwnN.lower (own_made w _ _) (by omega), gw⟩) : P := h
set_option maxRecDepth 100000 in
set_option maxHeartbeats 4000000 in
theorem copyText_call (A : Option Addr) (len c : Nat) (ns : List Nd) (w : World) (hA : NdRow w A ns) (hl : ns.length = len) (hlen : len ≤ 1000000) :
 Calls Tryz.prog 73 #[.agg #[.slice A len c]] w fun e w' => ∃ v, e = .returned (.agg #[v]) ∧ OwnN w' w.heap.size v ns ∧ Gr w w' := by
 by_cases hne : ns = []
 ·subst hne
  obtain rfl : len = 0 := by simpa using hl.symm
  go_enter Tryz.func73, Tryz.ntmps73
  cases A with
  | none =>
    exact tZ72
  | some a =>
    exact tZ72
 ·obtain ⟨b, o, rfl, hc⟩ := nodes_cells2 hA hne
  obtain ⟨n0, hn0⟩ : ∃ n, ns[0]? = some n := ⟨_, gE (by have : ns.length ≠ 0 := fun e => hne (List.eq_nil_of_length_eq_zero e); omega)⟩
  have hb : b < w.heap.size := lcc w _ (hc 0 _ (by simpa using ndc_get hn0 (show 0 < 8 by omega)))
  have HC := hiD hc
  have HL := hiD hl
  clear hA hc hl hne hn0
  go_enter Tryz.func73, Tryz.ntmps73
  go_wp2_with (at_builtin; refine wpList_nds rfl _ _ rfl (w.heap.size + 2) (.slice (some ⟨w.heap.size + 2, 0, none⟩) 0 0) [] rfl (own_made w _ _) b o c ns len HL.out rfl (fun j u hu => Gr.cell gw (HC.out j u hu)) (by simp <;> omega) (by simp <;> omega) ?_; intro v4 w4 HO4 HS4; obtain ⟨A4, c4, hv4, _, _⟩ := HO4.out.row (by simp; have := HL.out; omega); obtain ⟨l4, hl4⟩ : ∃ l4, l4 = ([] ++ ns : List Nd).length := ⟨_, rfl⟩; rw [← hl4] at hv4; subst hv4; clear hl4; have hcp : w4.cell? ⟨w.heap.size + 1, 0, none⟩ = some (.slice none 0 0) := HS4.out.by'.cell (by go_simp) (by simp [Value.ownBlock]); have hfp : w4.frozen? ⟨w.heap.size + 1, 0, none⟩ = false := (World.frozen?_of_block (HS4.out.by'.block (w.heap.size + 1) (by simp <;> omega) (by simp [Value.ownBlock]))).trans (by go_simp); have ncp := lcc w4 _ hcp)
  refine bodyPost_ret (res_one33 Tryz.results73 rfl (World.cell?_setCell_same' _ _ _ (by rw [hcp]; rfl))) rfl ⟨_, rfl, ?_, ?_⟩
  ·have h4 := HO4.out
   rw [List.nil_append] at h4
   exact OwnN.lower (OwnN.by h4 (setCell_by _ _ _ _) (fun k e => by cases e; omega)) (by omega)
  ·exact (Gr.grown (w := w) gw HS4.out.by' (fun q hq => by simp [Value.ownBlock] at hq; omega) HS4.out.dr).setCell (p := ⟨w.heap.size + 1, 0, none⟩) (by simp) _
end Go.Proofs.OGW
namespace Go.Proofs.OGW
open Go.RowKit Go.Sort OG Go.Shelf
attribute [local go_sem] sA fv sB sG sC Nat.zero_add
attribute [local go_sem ↓] ld66 ld51 st66 st51
def LargePost (w : World) (P : Prop) (e : Ending) (w' : World) : Prop := ∃ b : Bool, e = .returned (.bool b) ∧ Gr w w' ∧ (b = false → P)
theorem tZ99 {P : Prop} (h : P := by
 go_ret
 exact ⟨true, rfl, HG.out, fun h => by cases h⟩) : P := h
set_option maxRecDepth 100000 in
set_option maxHeartbeats 4000000 in
theorem large_call (most : Int) (A : Option Addr) (len c : Nat) (l : List Sg) (w : World) (hr : SgRow w A l) (hl : l.length = len) (hlen : len ≤ 140737488355328) :
 Calls Tryz.prog 8 #[lv most A len c] w (LargePost w (len ≤ 30)) := by
 have HB := hiD (big1_call most A len c l (w.alloc (.cells #[.int .i64 most, .slice A len c] 24)) (hr.gr ((Gr.refl w).alloc _)) hl hlen)
 clear hr hl
 go_enter Tryz.func8, Tryz.ntmps8
 go_wp2_with fail
 refine HB.out.mono ?_
 rintro e w1 ⟨b, rfl, hg, hb⟩
 have c1 := hg.cell (show (w.alloc (.cells #[.int .i64 most, .slice A len c] 24)).cell? ⟨w.heap.size, 1, none⟩ = some (.slice A len c) by go_simp)
 have n1 := lcc w1 _ c1
 have HG := hiD (((Gr.refl w).alloc _).trans hg)
 clear hg
 cases b
 ·have hb2 := hb rfl
  by_cases h30 : 30 < len
  ·have d0 : decide ((30 : Int) < (len : Int)) = true := by simp; omega
   go_wp2_with fail
   exact tZ99
  ·have d0 : decide ((30 : Int) < (len : Int)) = false := by simp; omega
   have HL := hiD (show len ≤ 30 by omega)
   clear h30
   go_wp2_with fail
   go_ret
   exact ⟨false, rfl, HG.out, fun _ => HL.out⟩
 ·clear hb
  go_wp2_with fail
  exact tZ99
abbrev ppv (most : Int) (SA : Option Addr) (sn sc : Nat) (A : Option Addr) (len c : Nat) : Value := .agg #[.int .i64 most, .slice SA sn sc, .slice A len c]
set_option maxRecDepth 100000 in
set_option maxHeartbeats 4000000 in
theorem big2_call (most : Int) (SA : Option Addr) (sn sc : Nat) (A : Option Addr) (len c : Nat) (l : List Sg) (w : World) (hr : SgRow w SA l) (hl : l.length = sn) (hlen : sn ≤ 140737488355328) :
 Calls Tryz.prog 24 #[ppv most SA sn sc A len c] w (LargePost w (sn ≤ 30 ∧ len ≤ 210)) := by
 have HB := hiD (large_call most SA sn sc l (w.alloc (.cells #[.int .i64 most, .slice SA sn sc, .slice A len c] 56)) (hr.gr ((Gr.refl w).alloc _)) hl hlen)
 clear hr hl
 go_enter Tryz.func24, Tryz.ntmps24
 go_wp2_with fail
 refine HB.out.mono ?_
 rintro e w1 ⟨b, rfl, hg, hb⟩
 have c1 := hg.cell (show (w.alloc (.cells #[.int .i64 most, .slice SA sn sc, .slice A len c] 56)).cell? ⟨w.heap.size, 2, none⟩ = some (.slice A len c) by go_simp)
 have n1 := lcc w1 _ c1
 have HG := hiD (((Gr.refl w).alloc _).trans hg)
 clear hg
 cases b
 ·have hb2 := hb rfl
  by_cases h30 : 210 < len
  ·have d0 : decide ((210 : Int) < (len : Int)) = true := by simp; omega
   go_wp2_with fail
   exact tZ99
  ·have d0 : decide ((210 : Int) < (len : Int)) = false := by simp; omega
   have HL := hiD (show sn ≤ 30 ∧ len ≤ 210 by omega)
   clear h30
   go_wp2_with fail
   go_ret
   exact ⟨false, rfl, HG.out, fun _ => HL.out⟩
 ·clear hb
  go_wp2_with fail
  exact tZ99
set_option maxRecDepth 100000 in
set_option maxHeartbeats 4000000 in
theorem page4_call (w : World) : Calls Tryz.prog 33 #[] w fun e w' => e = .returned (pgv 1 4800) ∧ Gr w w' := by
 go_enter Tryz.func33, Tryz.ntmps33
 go_wp2
 refine bodyPost_ret (res_cell Tryz.isAgg27 Tryz.sizeOf27 Tryz.results33 rfl ?_) rfl ⟨rfl, ?_⟩
 ·go_simp
 ·exact gw
set_option maxRecDepth 100000 in
set_option maxHeartbeats 4000000 in
theorem text4_call (most : Int) (SA : Option Addr) (sn sc : Nat) (A : Option Addr) (len c : Nat) (ns : List Nd) (w : World) (hA : NdRow w A ns) (hl : ns.length = len) (hlen : len ≤ 1000000) :
 Calls Tryz.prog 28 #[ppv most SA sn sc A len c] w fun e w' => ∃ v, e = .returned (.agg #[v]) ∧ OwnN w' w.heap.size v ns ∧ Gr w w' := by
 have HT := hiD (copyText_call A len c ns ((w.alloc (.cells #[.int .i64 most, .slice SA sn sc, .slice A len c] 56)).alloc (.cells #[.slice none 0 0] 33)) (hA.gr (((Gr.refl w).alloc _).alloc _)) hl hlen)
 have hns : ns.length ≤ 1000000 := by omega
 clear hA hl
 go_enter Tryz.func28, Tryz.ntmps28
 go_wp2_with fail
 refine HT.out.mono ?_
 rintro e w1 ⟨v, rfl, ho, hg⟩
 have c1 := hg.cell (show ((w.alloc (.cells #[.int .i64 most, .slice SA sn sc, .slice A len c] 56)).alloc (.cells #[.slice none 0 0] 33)).cell? ⟨w.heap.size + 1, 0, none⟩ = some (.slice none 0 0) by go_simp)
 have f1 : w1.frozen? ⟨w.heap.size + 1, 0, none⟩ = false := (World.frozen?_of_block (hg.b.block (w.heap.size + 1) (by simp <;> omega))).trans (by go_simp)
 have n1 := lcc w1 _ c1
 have HG := hiD ((((Gr.refl w).alloc _).alloc _).trans hg)
 have HO := hiD ho
 obtain ⟨A1, k1, hv, _, _⟩ := ho.row (by omega)
 subst hv
 clear hg ho
 go_wp2_with fail
 refine bodyPost_ret (res_one33 Tryz.results28 rfl (World.cell?_setCell_same' _ _ _ (by rw [c1]; rfl))) rfl ⟨_, rfl, ?_, ?_⟩
 ·exact OwnN.lower (OwnN.by HO.out (setCell_by _ _ _ _) (fun k e => by cases e; simp)) (by simp; omega)
 ·exact HG.out.setCell (p := ⟨w.heap.size + 1, 0, none⟩) (by simp) _
end Go.Proofs.OGW
namespace Go.Proofs.OGW
open Go.RowKit Go.Sort OG Go.Shelf
theorem info136 : (Tryz.prog.info? 136).map (fun i => (i.zero, i.size, i.bytes)) = some (some (.agg #[.int .i64 0, .string ByteArray.empty, .int .i64 0, .int .i64 0]), 4, 40) := by kernel_rfl
theorem info77 : (Tryz.prog.info? 77).map (fun i => (i.zero, i.size, i.bytes)) = some (some (.agg #[.string ByteArray.empty, .int .i64 0, .int .i64 0, .bool false, .slice none 0 0]), 5, 64) := by kernel_rfl
abbrev vcl1 (v : Val) : List Value := [.int .i64 v.kind, .string v.text, .int .i64 v.mn, .int .i64 v.mx]
def vcl (vs : List Val) : List Value := vs.flatMap vcl1
theorem vcl_len (vs : List Val) : (vcl vs).length = vs.length * 4 := by
 induction vs with
 | nil => rfl
 | cons n r ih => rw [show vcl (n :: r) = vcl1 n ++ vcl r from rfl, List.length_append, ih, List.length_cons]; simp only [vcl1, List.length_cons, List.length_nil]; omega
theorem vcl_one (vs : List Val) : ∀ u ∈ vcl vs, u.oneCell' = true := by
 intro u hu
 obtain ⟨n, _, h⟩ := List.mem_flatMap.1 hu
 simp only [vcl1, List.mem_cons, List.not_mem_nil, or_false] at h
 rcases h with rfl | rfl | rfl | rfl <;> rfl
theorem vcl_get {vs : List Val} {i j : Nat} {n : Val} (h : vs[i]? = some n) (hj : j < 4) : (vcl vs)[i * 4 + j]? = (vcl1 n)[j]? := flat_at vcl1 4 (fun _ => rfl) vs i j n h hj
abbrev OwnV (w : World) (B : Nat) (v : Value) (vs : List Val) : Prop := w.ownsRow B 136 4 v vs.length (vcl vs)
theorem OwnV.row {w : World} {B : Nat} {v : Value} {vs : List Val} (h : OwnV w B v vs) (hl : vs.length ≤ 140737488355328) : ∃ A c, v = .slice A vs.length c ∧ vs.length ≤ c ∧ ValRow w A vs := by
 rcases h.2 with ⟨rfl, h0⟩ | ⟨g, cap, cur, rfl, hb, hg, h1, h2, h3, h4⟩
 ·have : vs = [] := List.eq_nil_of_length_eq_zero h0
  subst this
  exact ⟨none, 0, rfl, Nat.le_refl _, ⟨by simp, fun i g hg => by simp at hg⟩⟩
 ·refine ⟨_, cap, rfl, h1, ⟨hl, fun i x hx => ⟨g, 0, rfl, ?_⟩⟩⟩
  have key : ∀ j, j < 4 → ∀ u, (vcl1 x)[j]? = some u → w.cell? ⟨g, i * 4 + j, none⟩ = some u := fun j hj u hu => by
   have := h.cells (g := g) rfl (i * 4 + j) u (by rw [vcl_get hx hj]; exact hu)
   exact tZ123
  exact ⟨by have := key 0 (by omega) _ rfl; rw [Nat.zero_add]; exact this, by have := key 1 (by omega) _ rfl; rw [Nat.zero_add]; exact this, by have := key 2 (by omega) _ rfl; rw [Nat.zero_add]; exact this, by have := key 3 (by omega) _ rfl; rw [Nat.zero_add]; exact this⟩
theorem vals_cells {w : World} {A : Option Addr} {vs : List Val} (h : ValRow w A vs) (hne : vs ≠ []) : ∃ b o, A = some ⟨b, o, none⟩ ∧ ∀ (j : Nat) (u : Value), (vcl vs)[j]? = some u → w.cell? ⟨b, o + j, none⟩ = some u := by
 obtain ⟨n0, r, rfl⟩ : ∃ n0 r, vs = n0 :: r := by cases vs with | nil => exact absurd rfl hne | cons a r => exact ⟨a, r, rfl⟩
 obtain ⟨b, o, rfl, _⟩ := h.2 0 n0 rfl
 refine ⟨b, o, rfl, fun j u hu => ?_⟩
 have hj : j < (n0 :: r).length * 4 := by have := (gO hu).1; rw [vcl_len] at this; exact this
 obtain ⟨x, hx⟩ : ∃ x, (n0 :: r)[j / 4]? = some x := ⟨_, gE (by omega)⟩
 have hg := vcl_get hx (show j % 4 < 4 by omega)
 rw [show j / 4 * 4 + j % 4 = j by omega, hu] at hg
 obtain ⟨b', o', e, k⟩ := h.2 (j / 4) x hx
 cases e
 have h4 : j % 4 = 0 ∨ j % 4 = 1 ∨ j % 4 = 2 ∨ j % 4 = 3 := by omega
 have hadd : o + j = o + j / 4 * 4 + j % 4 := by omega
 rw [hadd]
 rcases h4 with e | e | e | e <;> rw [e] at hg ⊢ <;> simp [vcl1] at hg <;> subst hg
 ·exact k.c0
 ·exact k.c1
 ·exact k.c2
 ·exact k.c3
theorem wpList_vals {w : World} {ops : Array Oper} {rest : List Oper} {o : Oper} {a : Act} {Q : Exit → Act → World → Prop} (hgd : o.guard = none) (s x : Operand)
 (ho : o.op = .call { callee := .builtin .append, args := #[s, x], argTypes := #[75, 75] }) (B : Nat) (v : Value) (hs : a.eval s = v) (hown : OwnV w B v [])
 (g p c : Nat) (xs : List Val) (m : Nat) (hm : xs.length = m) (hx : a.eval x = .slice (some ⟨g, p, none⟩) m c) (hq : ∀ (j : Nat) (u : Value), (vcl xs)[j]? = some u → w.cell? ⟨g, p + j, none⟩ = some u) (hb : m ≤ 2000000) (hbase : B ≤ w.heap.size)
 (h : ∀ v' w', Hid (OwnV w' B v' xs) → Hid (RowStep w w' v v') → wpList Tryz.prog ops Q rest (a.put o.dst v') w') : wpList Tryz.prog ops Q (o :: rest) a w := by
 obtain ⟨i0, hi, hz0, hz1, hz2⟩ := info_parts info136
 refine wpList_app2 hgd s x 75 ho B 136 i0 _ 4 40 Tryz.underlying75 hi hz0 hz1 hz2 rfl (by decide) v 0 [] hs hown ⟨g, p, none⟩ m c (vcl xs) hx (by rw [vcl_len, hm]) ?_ (vcl_one xs) (by unfold maxLen; omega) (by omega) hbase ?_
 ·intro j u hu
  rw [Addr.add_lit]
  exact hq j u hu
 ·intro v' w' HO Hg Hd Hl
  refine h v' w' ?_ ⟨Hg.out, Hd.out, Hl.out⟩
  have := HO.out
  show w'.ownsRow B 136 4 v' xs.length (vcl xs)
  rw [Nat.zero_add, List.nil_append, ← hm] at this
  exact this
abbrev sgl (s : Sg) (h : Value) : List Value := [.string s.code, .int .i64 s.wide, .int .i64 s.high, .bool s.flag, h]
def sgc (ls : List Sg) (hs : List Value) : List Value := (ls.zip hs).flatMap fun p => sgl p.1 p.2
theorem sgc_app {ls : List Sg} {hs : List Value} (hl : hs.length = ls.length) (s : Sg) (h : Value) : sgc (ls ++ [s]) (hs ++ [h]) = sgc ls hs ++ sgl s h := by
 unfold sgc
 rw [List.zip_append hl.symm]
 simp
theorem sgc_get {ls : List Sg} {hs : List Value} {i j : Nat} {s : Sg} {h : Value} (h1 : ls[i]? = some s) (h2 : hs[i]? = some h) (hj : j < 5) : (sgc ls hs)[i * 5 + j]? = (sgl s h)[j]? :=
 flat_at (fun p : Sg × Value => sgl p.1 p.2) 5 (fun _ => rfl) (ls.zip hs) i j (s, h) (by rw [List.getElem?_zip_eq_some]; exact ⟨h1, h2⟩) hj
structure SgsH (w : World) (B : Nat) (v : Value) (ls : List Sg) (hs : List Value) : Prop where
 len : hs.length = ls.length
 out : w.ownsRow B 77 5 v ls.length (sgc ls hs)
 inn : ∀ (i : Nat) (s : Sg) (h : Value), ls[i]? = some s → hs[i]? = some h → ∃ A c, h = .slice A s.vals.length c ∧ s.vals.length ≤ c ∧ ∀ W2 : World, (∀ k, B ≤ k → k < w.heap.size → some k ≠ v.ownBlock → W2.heap[k]? = w.heap[k]?) → ValRow W2 A s.vals
theorem SgsH.nil (w : World) (B : Nat) : SgsH w B (.slice none 0 0) [] [] := ⟨rfl, World.ownsRow_nil w B 77 5, fun i s h hi => by simp at hi⟩
theorem SgsH.kept {w w' : World} {B : Nat} {v : Value} {ls : List Sg} {hs : List Value} {row : Option Nat} (h : SgsH w B v ls hs) (hg : w.grownBy w' row) (hr : ∀ k, row = some k → k < B) : SgsH w' B v ls hs := by
 refine ⟨h.len, h.out.kept hg ?_, fun i s x h1 h2 => ?_⟩
 ·cases hv : v.ownBlock with
  | none => exact .inl rfl
  | some k => exact .inr fun e => by have := hr k e.symm; have := (h.out.lt k hv).1; omega
 ·obtain ⟨A, c, e, hc, hrob⟩ := h.inn i s x h1 h2
  exact ⟨A, c, e, hc, fun W2 ha => hrob W2 fun k hb hk hne => (ha k hb (Nat.lt_of_lt_of_le hk hg.size) hne).trans (hg.block k hk (fun e => by have := hr k e.symm; omega))⟩
theorem SgsH.gr {w w' : World} {B : Nat} {v : Value} {ls : List Sg} {hs : List Value} (h : SgsH w B v ls hs) (hg : Gr w w') : SgsH w' B v ls hs := h.kept (Gr.by hg : w.grownBy w' none) (fun k e => by cases e)
theorem SgsH.push {w w' : World} {B : Nat} {v v' : Value} {ls : List Sg} {hs : List Value} (h : SgsH w B v ls hs) (s : Sg) (x : Value) (hst : RowStep w w' v v') (ho : w'.ownsRow B 77 5 v' (ls.length + 1) (sgc ls hs ++ sgl s x))
 (hx : ∃ A c, x = .slice A s.vals.length c ∧ s.vals.length ≤ c ∧ ∀ W2 : World, (∀ k, B ≤ k → k < w.heap.size → some k ≠ v.ownBlock → W2.heap[k]? = w.heap[k]?) → ValRow W2 A s.vals) : SgsH w' B v' (ls ++ [s]) (hs ++ [x]) := by
 have agree : ∀ W2 : World, (∀ k, B ≤ k → k < w'.heap.size → some k ≠ v'.ownBlock → W2.heap[k]? = w'.heap[k]?) → ∀ k, B ≤ k → k < w.heap.size → some k ≠ v.ownBlock → W2.heap[k]? = w.heap[k]? := by
  intro W2 ha k hB hk hne
  refine (ha k hB (Nat.lt_of_lt_of_le hk hst.by'.size) ?_).trans (hst.by'.block k hk hne)
  rcases hst.loc with e | e
  ·rw [e]; exact hne
  ·intro e2; have := e k e2.symm; omega
 refine ⟨by simp [h.len], by rw [sgc_app h.len, List.length_append]; exact ho, fun i t y h1 h2 => ?_⟩
 rcases Nat.lt_or_ge i ls.length with hi | hi
 ·rw [List.getElem?_append_left hi] at h1
  rw [List.getElem?_append_left (by rw [h.len]; exact hi)] at h2
  obtain ⟨A, c, e, hc, hrob⟩ := h.inn i t y h1 h2
  exact ⟨A, c, e, hc, fun W2 ha => hrob W2 (agree W2 ha)⟩
 ·have hi2 : i = ls.length := by have := (gO h1).1; simp at this; omega
  subst hi2
  rw [List.getElem?_append_right (Nat.le_refl _)] at h1
  rw [List.getElem?_append_right (by rw [h.len]; exact Nat.le_refl _)] at h2
  simp [h.len] at h1 h2
  subst h1
  subst h2
  obtain ⟨A, c, e, hc, hrob⟩ := hx
  exact ⟨A, c, e, hc, fun W2 ha => hrob W2 (agree W2 ha)⟩
theorem SgsH.row {w : World} {B : Nat} {v : Value} {ls : List Sg} {hs : List Value} (h : SgsH w B v ls hs) (hl : ls.length ≤ 140737488355328) : ∃ A c, v = .slice A ls.length c ∧ SgRow w A ls := by
 rcases h.out.2 with ⟨rfl, h0⟩ | ⟨g, cap, cur, rfl, hb, hg, h1, h2, h3, h4⟩
 ·have : ls = [] := List.eq_nil_of_length_eq_zero h0
  subst this
  exact ⟨none, 0, rfl, ⟨by simp, fun i g hg => by simp at hg⟩⟩
 ·refine ⟨_, cap, rfl, ⟨hl, fun i s hs2 => ⟨g, 0, rfl, ?_⟩⟩⟩
  have hil := (gO hs2).1
  obtain ⟨x, hx⟩ : ∃ x, hs[i]? = some x := ⟨_, gE (by rw [h.len]; exact hil)⟩
  have key : ∀ j, j < 5 → ∀ u, (sgl s x)[j]? = some u → w.cell? ⟨g, 0 + i * 5 + j, none⟩ = some u := fun j hj u hu => by
   have := h.out.cells (g := g) rfl (i * 5 + j) u (by rw [sgc_get hs2 hx hj]; exact hu)
   rw [Addr.add_lit] at this
   rw [Nat.add_assoc]
   exact this
  obtain ⟨A, c, e, hc, hrob⟩ := h.inn i s x hs2 hx
  subst e
  exact ⟨key 0 (by omega) _ rfl, key 1 (by omega) _ rfl, key 2 (by omega) _ rfl, key 3 (by omega) _ rfl, A, c, key 4 (by omega) _ rfl, hc, hrob w (fun _ _ _ _ => rfl)⟩
theorem SgsH.agree {w W2 : World} {B : Nat} {v : Value} {ls : List Sg} {hs : List Value} (h : SgsH w B v ls hs) (ha : ∀ k, B ≤ k → k < w.heap.size → W2.heap[k]? = w.heap[k]?) : SgsH W2 B v ls hs := by
 refine ⟨h.len, ownsRow_agree h.out ha, fun i s x h1 h2 => ?_⟩
 obtain ⟨A, c, e, hc, hrob⟩ := h.inn i s x h1 h2
 refine ⟨A, c, e, hc, fun W3 h3 => hrob W3 fun k hb hk hne => ?_⟩
 have h4 := ha k hb hk
 have hk2 : k < W2.heap.size := by
  rw [Array.getElem?_eq_getElem hk] at h4
  exact (Array.getElem?_eq_some_iff.1 h4).1
 exact (h3 k hb hk2 hne).trans h4
end Go.Proofs.OGW
