import Derived.Test.YtmejcmollpbcfaaGreatP31
set_option linter.all false
namespace Go.Proofs.OGW
open Go.RowKit Go.Sort OG Go.Shelf Go.PlainAid
theorem info51 : (Tryz.prog.info? 51).map (fun i => (i.zero, i.size, i.bytes)) = some (some (.agg #[.int .i64 0, .int .i64 0, .int .i64 0, .int .i64 0, .bool false, .int .i64 0, .int .i64 0, .int .i64 0]), 8, 64) := by kernel_rfl
abbrev ncl (n : Nd) : List Value := [.int .i64 n.lf.kind, .int .i64 n.depth, .int .i64 n.lf.sign, .int .i64 n.lf.turn, .bool n.lf.mirror, .int .i64 n.lf.state, .int .i64 n.lf.mn, .int .i64 n.lf.mx]
def ndc (ns : List Nd) : List Value := ns.flatMap ncl
theorem ndc_app (ns ms : List Nd) : ndc (ns ++ ms) = ndc ns ++ ndc ms := by simp [ndc]
theorem ndc_len (ns : List Nd) : (ndc ns).length = ns.length * 8 := by
 induction ns with
 | nil => rfl
 | cons n r ih => rw [show ndc (n :: r) = ncl n ++ ndc r from rfl, List.length_append, ih, List.length_cons]; simp only [ncl, List.length_cons, List.length_nil]; omega
theorem ndc_one (ns : List Nd) : ∀ u ∈ ndc ns, u.oneCell' = true := by
 intro u hu
 obtain ⟨n, _, h⟩ := List.mem_flatMap.1 hu
 simp only [ncl, List.mem_cons, List.not_mem_nil, or_false] at h
 rcases h with rfl | rfl | rfl | rfl | rfl | rfl | rfl | rfl <;> rfl
theorem ndc_get {ns : List Nd} {i j : Nat} {n : Nd} (h : ns[i]? = some n) (hj : j < 8) : (ndc ns)[i * 8 + j]? = (ncl n)[j]? := flat_at ncl 8 (fun _ => rfl) ns i j n h hj
abbrev OwnN (w : World) (B : Nat) (v : Value) (ns : List Nd) : Prop := w.ownsRow B 51 8 v ns.length (ndc ns)
theorem OwnN.nil (w : World) (B : Nat) : OwnN w B (.slice none 0 0) [] := World.ownsRow_nil w B 51 8
theorem OwnN.gr {w w' : World} {B : Nat} {v : Value} {ns : List Nd} (h : OwnN w B v ns) (hg : Gr w w') : OwnN w' B v ns := h.kept (Gr.by hg) (by cases v.ownBlock <;> simp)
theorem OwnN.by {w w' : World} {B : Nat} {v : Value} {ns : List Nd} {row : Option Nat} (h : OwnN w B v ns) (hg : w.grownBy w' row) (hr : ∀ k, row = some k → k < B) : OwnN w' B v ns := h.kept hg (by
 cases hv : v.ownBlock with
 | none => simp
 | some k => right; intro e; have := hr k e.symm; have := (h.lt k hv).1; omega)
theorem OwnN.low {w : World} {B : Nat} {v : Value} {ns : List Nd} (h : OwnN w B v ns) : ∀ k, v.ownBlock = some k → B ≤ k := fun k e => (h.lt k e).1
theorem OwnN.row {w : World} {B : Nat} {v : Value} {ns : List Nd} (h : OwnN w B v ns) (hl : ns.length ≤ 140737488355328) : ∃ A c, v = .slice A ns.length c ∧ NdRow w A ns ∧ ∀ b o, A = some ⟨b, o, none⟩ → B ≤ b := by
 rcases h.2 with ⟨rfl, h0⟩ | ⟨g, cap, cur, rfl, hb, hg, h1, h2, h3, h4⟩
 ·have : ns = [] := List.eq_nil_of_length_eq_zero h0
  subst this
  exact ⟨none, 0, rfl, ⟨by simp, fun i g hg => by simp at hg⟩, fun b o e => by cases e⟩
 ·refine ⟨_, cap, rfl, ⟨hl, fun i x hx => ⟨g, 0, rfl, rowV_of rfl fun j u hu => ?_⟩⟩, fun b o e => by cases e; exact hb⟩
  have hu' : (ncl x)[j]? = some u := by simpa [nv] using hu
  have hj : j < 8 := (gO hu').1
  have := h.cells (g := g) rfl (i * 8 + j) u (by rw [ndc_get hx hj]; exact hu')
  rw [Addr.add_lit] at this
  rw [Nat.add_assoc]
  exact this
theorem wpList_nds {w : World} {ops : Array Oper} {rest : List Oper} {o : Oper} {a : Act} {Q : Exit → Act → World → Prop} (hgd : o.guard = none) (s x : Operand)
 (ho : o.op = .call { callee := .builtin .append, args := #[s, x], argTypes := #[31, 31] }) (B : Nat) (v : Value) (ns : List Nd) (hs : a.eval s = v) (hown : OwnN w B v ns)
 (g p c : Nat) (xs : List Nd) (m : Nat) (hm : xs.length = m) (hx : a.eval x = .slice (some ⟨g, p, none⟩) m c) (hq : ∀ (j : Nat) (u : Value), (ndc xs)[j]? = some u → w.cell? ⟨g, p + j, none⟩ = some u) (hb : ns.length + m ≤ 2000000) (hbase : B ≤ w.heap.size)
 (h : ∀ v' w', Hid (OwnN w' B v' (ns ++ xs)) → Hid (RowStep w w' v v') → wpList Tryz.prog ops Q rest (a.put o.dst v') w') : wpList Tryz.prog ops Q (o :: rest) a w := by
 obtain ⟨i0, hi, hz0, hz1, hz2⟩ := info_parts info51
 refine wpList_app2 hgd s x 31 ho B 51 i0 _ 8 64 Tryz.underlying31 hi hz0 hz1 hz2 rfl (by decide) v ns.length (ndc ns) hs hown ⟨g, p, none⟩ m c (ndc xs) hx (by rw [ndc_len, hm]) ?_ (ndc_one xs) (by unfold maxLen; omega) (by omega) hbase ?_
 ·intro j u hu
  rw [Addr.add_lit]
  exact hq j u hu
 ·intro v' w' HO Hg Hd Hl
  refine h v' w' ?_ ⟨Hg.out, Hd.out, Hl.out⟩
  have := HO.out
  show w'.ownsRow B 51 8 v' (ns ++ xs).length (ndc (ns ++ xs))
  rw [ndc_app, List.length_append, hm]
  exact this
end Go.Proofs.OGW
namespace Go.Proofs.OGW
open Go.RowKit Go.Sort OG Go.Shelf Go.PlainAid
attribute [local go_sem] sA fv sB sG sC Nat.zero_add
attribute [local go_sem ↓] ld66 ld51 st66 st51
theorem tZ63 {P : Prop} (h : P := by
 have hp' : tmps[p]?.getD undef = .pointer (some ⟨n, 0, none⟩) := by simpa using hp
 have hq' : tmps[q]?.getD undef = u := by simpa using hq
 simp only [ldV] at h1
 simp [results, h, hp', hq', asAddr, h1]) : P := h
theorem res33t {fn : Func} {p q : Tmp} (h : fn.results = #[.cell p 33, .tmp q]) {tmps : Array Value} {w : World} {n : Nat} {v u : Value}
 (hp : tmps.getD p undef = .pointer (some ⟨n, 0, none⟩)) (hq : tmps.getD q undef = u) (hv : w.cell? ⟨n, 0, none⟩ = some v) : (results fn tmps).run Tryz.prog w = .ok (.tuple #[.agg #[v], u]) w := by
 have h1 := run_ldV Tryz.isAgg33 Tryz.sizeOf33 n 0 w
 have h2 : rowV 1 w n 0 = some (.agg #[v]) := rowV_of rfl fun j x hx => by
  cases j with
  | zero => simp at hx; subst hx; exact hv
  | succ j => simp at hx
 rw [h2] at h1
 exact tZ63
theorem bel_cell {w w' : World} (hb : Below w.heap.size w w') {p : Addr} {v : Value} (hc : w.cell? p = some v) : w'.cell? p = some v := (hb.cell (lcc w _ hc)).trans hc
theorem bel_frozen {w w' : World} (hb : Below w.heap.size w w') {p : Addr} {v : Value} (hc : w.cell? p = some v) (hf : w.frozen? p = false) : w'.frozen? p = false := (hb.frozen (lcc w _ hc)).trans hf
def TextPost (w : World) (ce : Int) (out : List Nd) (e : Ending) (w' : World) : Prop :=
 ∃ v, e = .returned (.tuple #[.agg #[v], .int .i64 ce]) ∧ OwnN w' w.heap.size v (if ce = 0 then out else []) ∧ Below w.heap.size w w'
theorem Upto.below2 {w w0 w' : World} {n8 : Nat} (h : Upto w0 n8 w') (hg : Below w.heap.size w w0) (hn : w.heap.size ≤ n8) : Below w.heap.size w w' :=
 ⟨h.os.trans hg.os, h.tape.trans hg.tape, h.output.trans hg.output, Nat.le_trans hg.size h.size, fun k hk => (h.keep k (Nat.lt_of_lt_of_le hk hg.size) (by omega)).trans (hg.block k hk)⟩
theorem OwnN.lower {w : World} {B B' : Nat} {v : Value} {ns : List Nd} (h : OwnN w B v ns) (hB : B' ≤ B) : OwnN w B' v ns :=
 ⟨h.1, h.2.imp id fun ⟨g, cap, cur, e, hb, rest⟩ => ⟨g, cap, cur, e, Nat.le_trans hB hb, rest⟩⟩
theorem OwnN.form {w : World} {B : Nat} {v : Value} {ns : List Nd} {n : Nd} (h : OwnN w B v (ns ++ [n])) : ∃ g c, v = .slice (some ⟨g, 0, none⟩) (ns.length + 1) c ∧ B ≤ g ∧ g < w.heap.size := by
 rcases h.2 with ⟨rfl, h0⟩ | ⟨g, cap, cur, rfl, hb, hg, _⟩
 ·simp at h0
 ·exact ⟨g, cap, by simp, hb, (Array.getElem?_eq_some_iff.1 hg).1⟩
structure BoxN (W0 : World) (OB : Nat) (wr : World) (v : Value) (out : List Nd) : Prop where
 up : Upto W0 OB wr
 box : wr.heap[OB]? = some (.cells #[v] 33 (0, 0))
 own : OwnN wr W0.heap.size v out
theorem cell_of_box {w : World} {b : Nat} {v : Value} {t : TypeId} (h : w.heap[b]? = some (.cells #[v] t (0, 0))) : w.cell? ⟨b, 0, none⟩ = some v ∧ w.frozen? ⟨b, 0, none⟩ = false := by
 constructor <;> simp [World.cell?, World.frozen?, h]
theorem BoxN.gr {W0 : World} {OB : Nat} {wr w' : World} {v : Value} {out : List Nd} (h : BoxN W0 OB wr v out) (hg : Gr wr w') : BoxN W0 OB w' v out :=
 ⟨h.up.gr hg, (hg.b.block OB (Array.getElem?_eq_some_iff.1 h.box).1).trans h.box, h.own.gr hg⟩
theorem BoxN.step {W0 : World} {OB : Nat} {wr w' : World} {v v' : Value} {out out' : List Nd} (h : BoxN W0 OB wr v out) (hO : OB < W0.heap.size) (hs : RowStep wr w' v v') (ho : OwnN w' W0.heap.size v' out') :
 w'.heap[OB]? = some (.cells #[v] 33 (0, 0)) ∧ BoxN W0 OB (w'.setCell ⟨OB, 0, none⟩ v') v' out' := by
 have hlow := h.own.low
 have hne : some OB ≠ v.ownBlock := fun e => by have := hlow _ e.symm; omega
 have h1 := (hs.by'.block OB (Array.getElem?_eq_some_iff.1 h.box).1 hne).trans h.box
 refine ⟨h1, (h.up.grown hs.by' hlow hs.dr).setCell OB 0 v' (.inl rfl), heap_setCell_same w' OB 0 #[v] 33 v' h1, ho.by (setCell_by _ _ _ _) (fun k e => by cases e; exact hO)⟩
theorem tZ45 {P : Prop} (h : P := by
 split at h0
 ·rename_i h1; exact absurd h0 h1
 split at h0
 ·cases h0
 split at h0
 ·rename_i h1; exact absurd h0 h1
 rename_i h1
 have h2 := (firstE_zero ns.length 0).1 (by simpa using h1) j (Nat.zero_le _) (by have := (gO hn).1; omega)
 unfold ownE at h2
 rw [hn] at h2
 exact nodeE_depth h2) : P := h
set_option maxRecDepth 100000 in
set_option maxHeartbeats 8000000 in
theorem plain_call (most : Int) (SA : Option Addr) (sn sc : Nat) (A : Option Addr) (len c : Nat) (l : List Sg) (ns : List Nd) (w : World) (hE : LayEnv w most SA sn sc A len c l ns) :
 Calls Tryz.prog 19 #[lv most SA sn sc, .agg #[.slice A len c]] w (TextPost w (checkP most l ns) (plainP 0 ns)) := by
 have hlen := hE.nb
 have HL := hiD hE.nl
 have hck := textCheck_call most SA sn sc A len c l ns (((w.alloc (.cells #[.int .i64 most, .slice SA sn sc] 24)).alloc (.cells #[.slice A len c] 33)).alloc (.cells #[.slice none 0 0] 33)) (hE.gr ((((Gr.refl w).alloc _).alloc _).alloc _))
 have HCK := hiD hck
 have HE := hiD hE
 clear hE hck
 have hdep : checkP most l ns = 0 → ∀ (j : Nat) (n : Nd), ns[j]? = some n → 0 ≤ n.depth ∧ n.depth ≤ 4 := by
  intro h0 j n hn
  unfold checkP at h0
  exact tZ45
 obtain ⟨ce, hce⟩ : ∃ ce, ce = checkP most l ns := ⟨_, rfl⟩
 rw [← hce] at HCK hdep ⊢
 have HDEP := hiD hdep
 clear hce hdep
 by_cases h0 : ce = 0
 ·subst h0
  go_enter Tryz.func19, Tryz.ntmps19
  go_upto_region 4 with (go_at_call 47; refine HCK.out.mono ?_; rintro e w' ⟨rfl, hgw⟩; have HG := hiD hgw; have m0 := bel_cell (p := ⟨w.heap.size + 1, 0, none⟩) (v := .slice A len c) hgw (by go_simp); have m1 := bel_cell (p := ⟨w.heap.size + 2, 0, none⟩) (v := .slice none 0 0) hgw (by go_simp); have f1 := bel_frozen (p := ⟨w.heap.size + 2, 0, none⟩) (v := .slice none 0 0) hgw (by go_simp) (by go_simp); clear hgw)
  have hbw : Below w.heap.size w w' := ((((Gr.refl w).alloc _).alloc _).alloc _).b.trans (HG.out.mono (by simp; omega))
  have HBW := hiD hbw
  have hw1 : w.heap.size + 2 < w'.heap.size := lcc w' _ m1
  have hw0 : w.heap.size + 1 < w'.heap.size := lcc w' _ m0
  clear HG HCK hbw
  go_wp2
  have hOB : w'.heap.size < (w'.alloc (.cells #[.slice none 0 0] 33)).heap.size := by simp
  have h00 : BoxN (w'.alloc (.cells #[.slice none 0 0] 33)) w'.heap.size (w'.alloc (.cells #[.slice none 0 0] 33)) (.slice none 0 0) [] := ⟨Upto.refl _ _, heap_alloc_new _ _, OwnN.nil _ _⟩
  have q0 : (w'.alloc (.cells #[.slice none 0 0] 33)).cell? ⟨w.heap.size + 1, 0, none⟩ = some (.slice A len c) := by go_simp
  have q1 : (w'.alloc (.cells #[.slice none 0 0] 33)).cell? ⟨w.heap.size + 2, 0, none⟩ = some (.slice none 0 0) := by go_simp
  have q2 : (w'.alloc (.cells #[.slice none 0 0] 33)).frozen? ⟨w.heap.size + 2, 0, none⟩ = false := by go_simp
  have hb2 : Below w.heap.size w (w'.alloc (.cells #[.slice none 0 0] 33)) := HBW.out.alloc HBW.out.size _
  obtain ⟨OB, hob⟩ : ∃ OB, OB = w'.heap.size := ⟨_, rfl⟩
  rw [← hob] at hOB h00 ⊢
  have hob2 : w.heap.size + 2 < OB := by omega
  generalize w'.alloc (.cells #[.slice none 0 0] 33) = W0 at hOB h00 q0 q1 q2 hb2 ⊢
  have H00 := hiD h00
  have Q0 := hiD q0
  have Q1 := hiD q1
  have Q2 := hiD q2
  have HB2 := hiD hb2
  clear h00 q0 q1 q2 hb2 m0 m1 f1 hob hw1 hw0
  go_loopw [21, 8] (fun i ls wr => ∃ (k : Nat) (less : Int) (v : Value) (out : List Nd), i = .int .i64 k ∧ ls = .int .i64 less ∧ k ≤ len ∧ 0 ≤ less ∧ less ≤ 1 ∧ out.length ≤ k ∧ Hid (BoxN W0 OB wr v out) ∧ Hid (plainP 0 ns = out ++ plainP less (ns.drop k))) (fun i _ _ => len - (intOf i).toNat)
  case atStart => exact ⟨0, 0, _, [], rfl, rfl, Nat.zero_le _, by omega, by omega, Nat.zero_le _, H00.out, rfl⟩
  case round =>
   obtain ⟨k, less, v, out, rfl, rfl, hk, hl0, hl1, hol, HBX, HPL⟩ := hrel
   have hc0 := HBX.out.up.cell (by omega) Q0.out
   have nc0 := lcc wr _ hc0
   obtain ⟨hcb, hfb⟩ := cell_of_box HBX.out.box
   have ncb := lcc wr _ hcb
   by_cases hlt : k < len
   ·obtain ⟨n, hn⟩ : ∃ n, ns[k]? = some n := ⟨_, gE (by rw [HL.out]; exact hlt)⟩
    obtain ⟨blk, off, rfl, hat⟩ := (HE.out.nd.below (HBX.out.up.below2 HB2.out (by omega))).2 k n hn
    have hblk : blk < wr.heap.size := lcc wr _ hat.c0
    have hdp := HDEP.out trivial k n hn
    obtain ⟨⟨kd, sg, tn, mr, sta, mn, mx⟩, dd⟩ := n
    simp only [NdAt, nv] at hat hdp
    have hdrop : ns.drop k = ⟨⟨kd, sg, tn, mr, sta, mn, mx⟩, dd⟩ :: ns.drop (k + 1) := by
     rw [List.drop_eq_getElem_cons (gO hn).1, (gO hn).2]
    have hpl := HPL.out
    rw [hdrop, plainP] at hpl
    have HPL2 := hiD hpl
    have hd : decide ((k : Int) < (len : Int)) = true := by simp; omega
    have tk : ((k : Nat) : Int).toNat = k := by omega
    have szW : W0.heap.size ≤ wr.heap.size := HBX.out.up.size
    clear hn hdrop hpl
    by_cases hd0 : dd = 0
    ·subst hd0
     by_cases hk7 : kd = 7
     ·subst hk7
      go_wp2_with ((at_builtin; refine wpList_nds rfl _ _ rfl W0.heap.size _ out rfl (HBX.out.own.gr gw) _ 0 _ [⟨⟨2, sg, tn, mr, sta, mn, mx⟩, 0 - 0⟩] 1 rfl rfl (fun j u hu => (World.cell?_alloc_at _ _ _ _ (by go_simp)).trans (by simpa [ndc] using hu)) (by omega) (Nat.le_trans szW (show Gr wr _ from gw).b.size) ?_; intro v4 w4 HO4 HS4; obtain ⟨g4, c4, hv4, _⟩ := HO4.out.form; subst hv4; have BX4 := hiD ((HBX.out.gr gw).step hOB HS4.out HO4.out).2; obtain ⟨hc4, hf4⟩ := cell_of_box ((HBX.out.gr gw).step hOB HS4.out HO4.out).1))
      go_roundw
      case rel =>
       refine ⟨k + 1, 0, .slice (some ⟨g4, 0, none⟩) (out.length + 1) c4, out ++ [(⟨⟨2, sg, tn, mr, sta, mn, mx⟩, 0 - 0⟩ : Nd)], by go_num, rfl, by omega, by omega, by omega, by rw [List.length_append, List.length_singleton]; omega, BX4.out, ?_⟩
       show plainP 0 ns = _
       rw [HPL2.out]
       simp [unhon]
      case measure => simp [intOf]; omega
     ·have d7 : (kd == 7) = false := by simpa using hk7
      have HK7 := hiD hk7
      clear hk7
      go_wp2_with ((at_builtin; refine wpList_nds rfl _ _ rfl W0.heap.size _ out rfl (HBX.out.own.gr gw) _ 0 _ [⟨⟨kd, sg, tn, mr, sta, mn, mx⟩, 0 - 0⟩] 1 rfl rfl (fun j u hu => (World.cell?_alloc_at _ _ _ _ (by go_simp)).trans (by simpa [ndc] using hu)) (by omega) (Nat.le_trans szW (show Gr wr _ from gw).b.size) ?_; intro v4 w4 HO4 HS4; obtain ⟨g4, c4, hv4, _⟩ := HO4.out.form; subst hv4; have BX4 := hiD ((HBX.out.gr gw).step hOB HS4.out HO4.out).2; obtain ⟨hc4, hf4⟩ := cell_of_box ((HBX.out.gr gw).step hOB HS4.out HO4.out).1))
      go_roundw
      case rel =>
       refine ⟨k + 1, 0, .slice (some ⟨g4, 0, none⟩) (out.length + 1) c4, out ++ [(⟨⟨kd, sg, tn, mr, sta, mn, mx⟩, 0 - 0⟩ : Nd)], by go_num, rfl, by omega, by omega, by omega, by rw [List.length_append, List.length_singleton]; omega, BX4.out, ?_⟩
       show plainP 0 ns = _
       rw [HPL2.out]
       simp [unhon, HK7.out]
      case measure => simp [intOf]; omega
    ·have d0 : (dd == 0) = false := by simpa using hd0
     have HD0 := hiD hd0
     clear hd0
     by_cases hk7 : kd = 7
     ·subst hk7
      go_wp2_with fail
      go_roundw
      case rel =>
       refine ⟨k + 1, 1, v, out, by go_num, rfl, by omega, by omega, by omega, by omega, HBX.out.gr ((Gr.refl wr).alloc _), ?_⟩
       show plainP 0 ns = _
       rw [HPL2.out]
       simp [HD0.out]
      case measure => simp [intOf]; omega
     ·have d7 : (kd == 7) = false := by simpa using hk7
      have HK7 := hiD hk7
      clear hk7
      go_wp2_with ((at_builtin; refine wpList_nds rfl _ _ rfl W0.heap.size _ out rfl (HBX.out.own.gr gw) _ 0 _ [⟨⟨kd, sg, tn, mr, sta, mn, mx⟩, dd - less⟩] 1 rfl rfl (fun j u hu => (World.cell?_alloc_at _ _ _ _ (by go_simp)).trans (by simpa [ndc] using hu)) (by omega) (Nat.le_trans szW (show Gr wr _ from gw).b.size) ?_; intro v4 w4 HO4 HS4; obtain ⟨g4, c4, hv4, _⟩ := HO4.out.form; subst hv4; have BX4 := hiD ((HBX.out.gr gw).step hOB HS4.out HO4.out).2; obtain ⟨hc4, hf4⟩ := cell_of_box ((HBX.out.gr gw).step hOB HS4.out HO4.out).1))
      go_roundw
      case rel =>
       refine ⟨k + 1, less, .slice (some ⟨g4, 0, none⟩) (out.length + 1) c4, out ++ [(⟨⟨kd, sg, tn, mr, sta, mn, mx⟩, dd - less⟩ : Nd)], by go_num, rfl, by omega, by omega, by omega, by rw [List.length_append, List.length_singleton]; omega, BX4.out, ?_⟩
       show plainP 0 ns = _
       rw [HPL2.out]
       simp [HD0.out, HK7.out]
      case measure => simp [intOf]; omega
   ·obtain rfl : k = len := by omega
    have hd : decide ((k : Int) < (k : Int)) = false := by simp
    have hr1 := HBX.out.up.cell (by omega) Q1.out
    have hf1 : wr.frozen? ⟨w.heap.size + 2, 0, none⟩ = false := (World.frozen?_of_block (HBX.out.up.keep (w.heap.size + 2) (lcc W0 _ Q1.out) (by omega))).trans Q2.out
    have hout : plainP 0 ns = out := by
     rw [HPL.out, List.drop_eq_nil_of_le (by rw [HL.out]; exact Nat.le_refl _)]
     simp [plainP]
    have HOUT := hiD hout
    clear hout
    rcases HBX.out.own.2 with ⟨rfl, _⟩ | ⟨g, cap, cur, rfl, _⟩
    all_goals
     go_wp2_with fail
     refine bodyPost_ret (res33t Tryz.results19 rfl rfl (World.cell?_setCell_same' _ _ _ (by rw [hr1]; rfl))) rfl ⟨_, rfl, ?_, ?_⟩
     ·rw [if_pos rfl, HOUT.out]
      exact ((HBX.out.own.by (setCell_by _ _ _ _) (fun k e => by cases e; omega)).lower HB2.out.size)
     ·exact (HBX.out.up.below2 HB2.out (by omega)).setCell (p := ⟨w.heap.size + 2, 0, none⟩) (Nat.le_add_right _ _) _
 ·have d0 : (ce != 0) = true := by simp [h0]
  have H0 := hiD h0
  clear h0
  go_enter Tryz.func19, Tryz.ntmps19
  go_wp2_with (go_at_call 47; refine HCK.out.mono ?_; rintro e w' ⟨rfl, hgw⟩; have HG := hiD hgw; have m1 := bel_cell (p := ⟨w.heap.size + 2, 0, none⟩) (v := .slice none 0 0) hgw (by go_simp); have f1 := bel_frozen (p := ⟨w.heap.size + 2, 0, none⟩) (v := .slice none 0 0) hgw (by go_simp) (by go_simp); clear hgw)
  have hbw : Below w.heap.size w w' := ((((Gr.refl w).alloc _).alloc _).alloc _).b.trans (HG.out.mono (by simp; omega))
  refine bodyPost_ret (res33t Tryz.results19 rfl rfl (World.cell?_setCell_same' _ _ _ (by rw [m1]; rfl))) rfl ⟨_, rfl, ?_, ?_⟩
  ·rw [if_neg H0.out]; exact OwnN.nil _ _
  ·exact hbw.setCell (p := ⟨w.heap.size + 2, 0, none⟩) (Nat.le_add_right _ _) _
end Go.Proofs.OGW
