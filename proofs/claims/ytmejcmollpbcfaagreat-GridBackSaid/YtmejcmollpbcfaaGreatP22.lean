import Derived.Test.YtmejcmollpbcfaaGreatP20
import Derived.Test.YtmejcmollpbcfaaGreatP21
set_option linter.all false
namespace Go.Proofs.OGW
open Go.RowKit Go.Sort OG Go.Shelf Go.PlainAid
attribute [local go_sem] sA fv sB sG sC Nat.zero_add
attribute [local go_sem ↓] ld66 ld51 st66 st51
theorem tZ36 {P : Prop} (h : P := by
 have h1 : v1 = .int .i64 (i : Nat) := hdep 1 (by kernel_rfl)
 subst h1
 clear hdep
 go_simp
 refine (HK.out w1 (G2.out.trans hg)).mono ?_
 rintro e w' ⟨hg', A', c', rfl, hq⟩
 have z0 := hg.b.size
 have z2 := Z2.out
 exact hK.out (.slice A' ks.length c') w' hg' ⟨A', c', rfl, FigsQ.mono (fun b hb => ⟨⟨by omega, hb.2⟩, rfl⟩) A' 0 ks hq⟩) : P := h
theorem tZ67 {P : Prop} (h : P := by
 clear hs
 obtain ⟨A', c', e, hq⟩ := h8
 subst e
 have HG1 := hiD hg
 clear h2 h6 h7 hg
 have HQ := hiD hq
 clear hq
 go_wp2
 go_ret
 exact ⟨G2.out.trans HG1.out, _, rfl, A', c', rfl, HQ.out⟩) : P := h
theorem tZ81 {P : Prop} (h : P := by
 have c1 := hg.cell M1.out
 have c2 := hg.cell M2.out
 have c3 := hg.cell M3.out
 go_simp
 exact hK.out (layv most SA sn sc (some ⟨blk, off, none⟩) len c rb) _ (Gr.refl _) rfl) : P := h
theorem tZ82 {P : Prop} (h : P := by
 subst h5
 clear hdep
 obtain ⟨A', c', e, hq⟩ := h2
 subst e
 go_simp
 exact hK.out (.agg #[.slice A' ks.length c', .int .i64 (sp n.depth)]) _ (Gr.refl _) ⟨A', c', rfl, hq⟩) : P := h
theorem tZ111 {P : Prop} (h : P := by
 subst e
 go_simp
 exact hK.out (.iface 239 (.agg #[.slice A' ks.length c', .int .i64 (sp n.depth)])) _ (Gr.refl _) ⟨A', c', rfl, hq⟩) : P := h
theorem tZ125 {P : Prop} (h : P := by
 clear hdep
 go_simp
 refine (HSP.out w1).mono ?_
 rintro e w' ⟨rfl, hg'⟩
 exact hK.out (.int .i64 (sp n.depth)) w' hg' rfl) : P := h
set_option maxRecDepth 100000 in
set_option maxHeartbeats 4000000 in
theorem fig_beside (most : Int) (SA : Option Addr) (sn sc : Nat) (A : Option Addr) (len c : Nat) (rb : Bool) (l : List Sg) (ns : List Nd) (i : Nat) (n : Nd) (w : World) (hE : LayEnv w most SA sn sc A len c l ns) (hn : ns[i]? = some n) (hk : n.lf.kind = 2)
 (hd1 : -1000000 ≤ n.depth) (hd2 : n.depth ≤ 1000000) (ks : List Fig) (hks : KidsAns w (layv most SA sn sc A len c rb) i ks) : FigAns w (layv most SA sn sc A len c rb) i (.beside ks (sp n.depth)) := by
 intro wA hgA
 have hE' := hE.gr hgA
 have hi : i < len := by have := (gO hn).1; have := hE.nl; omega
 have hlen := hE.nb
 obtain ⟨blk, off, rfl, hat⟩ := hE'.nd.2 i n hn
 have hblk : blk < wA.heap.size := lcc wA _ hat.c0
 have ti : ((i : Nat) : Int).toNat = i := by omega
 have HK := hiD (fun w1 (h1 : Gr wA w1) => hks w1 (hgA.trans h1))
 have HSP := hiD (space_call n.depth hd1 hd2)
 simp only [NdAt] at hat
 have k2 : (n.lf.kind == 2) = true := by simp [hk]
 have k3 : (n.lf.kind == 3) = false := by simp [hk]
 obtain ⟨A, hA⟩ : ∃ A : Option Addr, A = some ⟨blk, off, none⟩ := ⟨_, rfl⟩
 clear hE hE' hn hks hk hgA
 go_enter Tryz.func106, Tryz.ntmps106
 go_upto_region 4 with fail
 have M0 := hiD (show ((wA.alloc (.cells #[.int .i64 most, .slice SA sn sc, .slice (some ⟨blk, off, none⟩) len c, .bool rb] 95)).alloc (.cells #[.int .i64 n.lf.kind, .int .i64 n.depth, .int .i64 n.lf.sign, .int .i64 n.lf.turn, .bool n.lf.mirror, .int .i64 n.lf.state, .int .i64 n.lf.mn, .int .i64 n.lf.mx] 51)).cell? ⟨wA.heap.size, 0, none⟩ = some (.int .i64 most) by go_simp)
 have M1 := hiD (show ((wA.alloc (.cells #[.int .i64 most, .slice SA sn sc, .slice (some ⟨blk, off, none⟩) len c, .bool rb] 95)).alloc (.cells #[.int .i64 n.lf.kind, .int .i64 n.depth, .int .i64 n.lf.sign, .int .i64 n.lf.turn, .bool n.lf.mirror, .int .i64 n.lf.state, .int .i64 n.lf.mn, .int .i64 n.lf.mx] 51)).cell? ⟨wA.heap.size, 1, none⟩ = some (.slice SA sn sc) by go_simp)
 have M2 := hiD (show ((wA.alloc (.cells #[.int .i64 most, .slice SA sn sc, .slice (some ⟨blk, off, none⟩) len c, .bool rb] 95)).alloc (.cells #[.int .i64 n.lf.kind, .int .i64 n.depth, .int .i64 n.lf.sign, .int .i64 n.lf.turn, .bool n.lf.mirror, .int .i64 n.lf.state, .int .i64 n.lf.mn, .int .i64 n.lf.mx] 51)).cell? ⟨wA.heap.size, 2, none⟩ = some (.slice (some ⟨blk, off, none⟩) len c) by go_simp)
 have M3 := hiD (show ((wA.alloc (.cells #[.int .i64 most, .slice SA sn sc, .slice (some ⟨blk, off, none⟩) len c, .bool rb] 95)).alloc (.cells #[.int .i64 n.lf.kind, .int .i64 n.depth, .int .i64 n.lf.sign, .int .i64 n.lf.turn, .bool n.lf.mirror, .int .i64 n.lf.state, .int .i64 n.lf.mn, .int .i64 n.lf.mx] 51)).cell? ⟨wA.heap.size, 3, none⟩ = some (.bool rb) by go_simp)
 have N1 := hiD (show ((wA.alloc (.cells #[.int .i64 most, .slice SA sn sc, .slice (some ⟨blk, off, none⟩) len c, .bool rb] 95)).alloc (.cells #[.int .i64 n.lf.kind, .int .i64 n.depth, .int .i64 n.lf.sign, .int .i64 n.lf.turn, .bool n.lf.mirror, .int .i64 n.lf.state, .int .i64 n.lf.mn, .int .i64 n.lf.mx] 51)).cell? ⟨wA.heap.size + 1, 1, none⟩ = some (.int .i64 n.depth) by go_simp)
 have G2 := hiD (((Gr.refl wA).alloc (.cells #[.int .i64 most, .slice SA sn sc, .slice (some ⟨blk, off, none⟩) len c, .bool rb] 95)).alloc (.cells #[.int .i64 n.lf.kind, .int .i64 n.depth, .int .i64 n.lf.sign, .int .i64 n.lf.turn, .bool n.lf.mirror, .int .i64 n.lf.state, .int .i64 n.lf.mn, .int .i64 n.lf.mx] 51))
 have Z2 := hiD (show ((wA.alloc (.cells #[.int .i64 most, .slice SA sn sc, .slice (some ⟨blk, off, none⟩) len c, .bool rb] 95)).alloc (.cells #[.int .i64 n.lf.kind, .int .i64 n.depth, .int .i64 n.lf.sign, .int .i64 n.lf.turn, .bool n.lf.mirror, .int .i64 n.lf.state, .int .i64 n.lf.mn, .int .i64 n.lf.mx] 51)).heap.size = wA.heap.size + 2 by simp)
 generalize (wA.alloc (.cells #[.int .i64 most, .slice SA sn sc, .slice (some ⟨blk, off, none⟩) len c, .bool rb] 95)).alloc (.cells #[.int .i64 n.lf.kind, .int .i64 n.depth, .int .i64 n.lf.sign, .int .i64 n.lf.turn, .bool n.lf.mirror, .int .i64 n.lf.state, .int .i64 n.lf.mn, .int .i64 n.lf.mx] 51) = W2 at M0 M1 M2 M3 N1 G2 Z2 ⊢
 clear hat hA
 refine region_rel (relS [isV (layv most SA sn sc (some ⟨blk, off, none⟩) len c rb), isV (.int .i64 (i : Nat)), (fun (v : Value) (wx : World) => ∃ (A' : Option Addr) (c' : Nat), v = .slice A' ks.length c' ∧ FigsQ wx (fun b => wA.heap.size ≤ b ∧ b < wx.heap.size) A' 0 ks), isV (.pointer (some ⟨wA.heap.size + 1, 1, none⟩)), isV (.int .i64 n.depth), isV (.int .i64 (sp n.depth)), (fun (v : Value) (wx : World) => ∃ (A' : Option Addr) (c' : Nat), v = .agg #[.slice A' ks.length c', .int .i64 (sp n.depth)] ∧ FigsQ wx (fun b => wA.heap.size ≤ b ∧ b < wx.heap.size) A' 0 ks), (fun (v : Value) (wx : World) => ∃ (A' : Option Addr) (c' : Nat), v = .iface 239 (.agg #[.slice A' ks.length c', .int .i64 (sp n.depth)]) ∧ FigsQ wx (fun b => wA.heap.size ≤ b ∧ b < wx.heap.size) A' 0 ks), (fun (v : Value) (wx : World) => ∃ (A' : Option Addr) (c' : Nat), v = .iface 239 (.agg #[.slice A' ks.length c', .int .i64 (sp n.depth)]) ∧ FigsQ wx (fun b => wA.heap.size ≤ b ∧ b < wx.heap.size) A' 0 ks)]) mixed (by kernel_rfl) (by rfl) (relS_mono ⟨isV_mono _, isV_mono _, fun v w w' hg ⟨A', c', e, h⟩ => ⟨A', c', e, FigsQ.mono (fun b hb => ⟨⟨hb.1, Nat.lt_of_lt_of_le hb.2 hg.b.size⟩, hg.b.block b hb.2⟩) A' 0 ks h⟩, isV_mono _, isV_mono _, isV_mono _, fun v w w' hg ⟨A', c', e, h⟩ => ⟨A', c', e, FigsQ.mono (fun b hb => ⟨⟨hb.1, Nat.lt_of_lt_of_le hb.2 hg.b.size⟩, hg.b.block b hb.2⟩) A' 0 ks h⟩, fun v w w' hg ⟨A', c', e, h⟩ => ⟨A', c', e, FigsQ.mono (fun b hb => ⟨⟨hb.1, Nat.lt_of_lt_of_le hb.2 hg.b.size⟩, hg.b.block b hb.2⟩) A' 0 ks h⟩, fun v w w' hg ⟨A', c', e, h⟩ => ⟨A', c', e, FigsQ.mono (fun b hb => ⟨⟨hb.1, Nat.lt_of_lt_of_le hb.2 hg.b.size⟩, hg.b.block b hb.2⟩) A' 0 ks h⟩, trivial⟩) ?_
 refine ⟨fun w1 hg hdep K hK => ?_, fun v0 => ?_⟩
 ·clear hdep
  have c0 := hg.cell M0.out
  exact tZ81
 simp only [put_lit, List.setIfInBounds_toArray, List.set_cons_succ, List.set_cons_zero]
 refine ⟨fun w1 hg hdep K hK => ?_, fun v1 => ?_⟩
 ·clear hdep
  go_simp
  exact hK.out (.int .i64 (i : Nat)) _ (Gr.refl _) rfl
 simp only [put_lit, List.setIfInBounds_toArray, List.set_cons_succ, List.set_cons_zero]
 refine ⟨fun w1 hg hdep K hK => ?_, fun v2 => ?_⟩
 ·have h0 : v0 = layv most SA sn sc (some ⟨blk, off, none⟩) len c rb := hdep 0 (by kernel_rfl)
  subst h0
  exact tZ36
 simp only [put_lit, List.setIfInBounds_toArray, List.set_cons_succ, List.set_cons_zero]
 refine ⟨fun w1 hg hdep K hK => ?_, fun v3 => ?_⟩
 ·clear hdep
  go_simp
  exact hK.out (.pointer (some ⟨wA.heap.size + 1, 1, none⟩)) _ (Gr.refl _) rfl
 simp only [put_lit, List.setIfInBounds_toArray, List.set_cons_succ, List.set_cons_zero]
 refine ⟨fun w1 hg hdep K hK => ?_, fun v4 => ?_⟩
 ·have h3 : v3 = .pointer (some ⟨wA.heap.size + 1, 1, none⟩) := hdep 3 (by kernel_rfl)
  subst h3
  clear hdep
  have c1 := hg.cell N1.out
  go_simp
  exact hK.out (.int .i64 n.depth) _ (Gr.refl _) rfl
 simp only [put_lit, List.setIfInBounds_toArray, List.set_cons_succ, List.set_cons_zero]
 refine ⟨fun w1 hg hdep K hK => ?_, fun v5 => ?_⟩
 ·have h4 : v4 = .int .i64 n.depth := hdep 4 (by kernel_rfl)
  subst h4
  exact tZ125
 simp only [put_lit, List.setIfInBounds_toArray, List.set_cons_succ, List.set_cons_zero]
 refine ⟨fun w1 hg hdep K hK => ?_, fun v6 => ?_⟩
 ·have h2 := show (fun (v : Value) (wx : World) => ∃ (A' : Option Addr) (c' : Nat), v = .slice A' ks.length c' ∧ FigsQ wx (fun b => wA.heap.size ≤ b ∧ b < wx.heap.size) A' 0 ks) v2 w1 from hdep 2 (by kernel_rfl)
  have h5 : v5 = .int .i64 (sp n.depth) := hdep 5 (by kernel_rfl)
  exact tZ82
 simp only [put_lit, List.setIfInBounds_toArray, List.set_cons_succ, List.set_cons_zero]
 refine ⟨fun w1 hg hdep K hK => ?_, fun v7 => ?_⟩
 ·have h6 := show (fun (v : Value) (wx : World) => ∃ (A' : Option Addr) (c' : Nat), v = .agg #[.slice A' ks.length c', .int .i64 (sp n.depth)] ∧ FigsQ wx (fun b => wA.heap.size ≤ b ∧ b < wx.heap.size) A' 0 ks) v6 w1 from hdep 6 (by kernel_rfl)
  clear hdep
  obtain ⟨A', c', e, hq⟩ := h6
  exact tZ111
 simp only [put_lit, List.setIfInBounds_toArray, List.set_cons_succ, List.set_cons_zero]
 refine ⟨fun w1 hg hdep K hK => ?_, fun v8 => ?_⟩
 ·have h7 := show (fun (v : Value) (wx : World) => ∃ (A' : Option Addr) (c' : Nat), v = .iface 239 (.agg #[.slice A' ks.length c', .int .i64 (sp n.depth)]) ∧ FigsQ wx (fun b => wA.heap.size ≤ b ∧ b < wx.heap.size) A' 0 ks) v7 w1 from hdep 7 (by kernel_rfl)
  clear hdep
  obtain ⟨A', c', e, hq⟩ := h7
  exact tZ111
 simp only [put_lit, List.setIfInBounds_toArray, List.set_cons_succ, List.set_cons_zero]
 intro w1 hg hs
 have h0 : v0 = layv most SA sn sc (some ⟨blk, off, none⟩) len c rb := hs 0 (by decide)
 subst h0
 have h1 : v1 = .int .i64 (i : Nat) := hs 1 (by decide)
 subst h1
 have h2 := show (fun (v : Value) (wx : World) => ∃ (A' : Option Addr) (c' : Nat), v = .slice A' ks.length c' ∧ FigsQ wx (fun b => wA.heap.size ≤ b ∧ b < wx.heap.size) A' 0 ks) v2 w1 from hs 2 (by decide)
 have h3 : v3 = .pointer (some ⟨wA.heap.size + 1, 1, none⟩) := hs 3 (by decide)
 subst h3
 have h4 : v4 = .int .i64 n.depth := hs 4 (by decide)
 subst h4
 have h5 : v5 = .int .i64 (sp n.depth) := hs 5 (by decide)
 subst h5
 have h6 := show (fun (v : Value) (wx : World) => ∃ (A' : Option Addr) (c' : Nat), v = .agg #[.slice A' ks.length c', .int .i64 (sp n.depth)] ∧ FigsQ wx (fun b => wA.heap.size ≤ b ∧ b < wx.heap.size) A' 0 ks) v6 w1 from hs 6 (by decide)
 have h7 := show (fun (v : Value) (wx : World) => ∃ (A' : Option Addr) (c' : Nat), v = .iface 239 (.agg #[.slice A' ks.length c', .int .i64 (sp n.depth)]) ∧ FigsQ wx (fun b => wA.heap.size ≤ b ∧ b < wx.heap.size) A' 0 ks) v7 w1 from hs 7 (by decide)
 have h8 := show (fun (v : Value) (wx : World) => ∃ (A' : Option Addr) (c' : Nat), v = .iface 239 (.agg #[.slice A' ks.length c', .int .i64 (sp n.depth)]) ∧ FigsQ wx (fun b => wA.heap.size ≤ b ∧ b < wx.heap.size) A' 0 ks) v8 w1 from hs 8 (by decide)
 exact tZ67
theorem tZ112 {P : Prop} (h : P := by
 subst e
 go_simp
 exact hK.out (.iface 240 (.agg #[.slice A' ks.length c', .int .i64 (sp n.depth)])) _ (Gr.refl _) ⟨A', c', rfl, hq⟩) : P := h
set_option maxRecDepth 100000 in
set_option maxHeartbeats 4000000 in
theorem fig_above (most : Int) (SA : Option Addr) (sn sc : Nat) (A : Option Addr) (len c : Nat) (rb : Bool) (l : List Sg) (ns : List Nd) (i : Nat) (n : Nd) (w : World) (hE : LayEnv w most SA sn sc A len c l ns) (hn : ns[i]? = some n) (hk : n.lf.kind = 3)
 (hd1 : -1000000 ≤ n.depth) (hd2 : n.depth ≤ 1000000) (ks : List Fig) (hks : KidsAns w (layv most SA sn sc A len c rb) i ks) : FigAns w (layv most SA sn sc A len c rb) i (.above ks (sp n.depth)) := by
 intro wA hgA
 have hE' := hE.gr hgA
 have hi : i < len := by have := (gO hn).1; have := hE.nl; omega
 have hlen := hE.nb
 obtain ⟨blk, off, rfl, hat⟩ := hE'.nd.2 i n hn
 have hblk : blk < wA.heap.size := lcc wA _ hat.c0
 have ti : ((i : Nat) : Int).toNat = i := by omega
 have HK := hiD (fun w1 (h1 : Gr wA w1) => hks w1 (hgA.trans h1))
 have HSP := hiD (space_call n.depth hd1 hd2)
 simp only [NdAt] at hat
 have k2 : (n.lf.kind == 2) = false := by simp [hk]
 have k3 : (n.lf.kind == 3) = true := by simp [hk]
 obtain ⟨A, hA⟩ : ∃ A : Option Addr, A = some ⟨blk, off, none⟩ := ⟨_, rfl⟩
 clear hE hE' hn hks hk hgA
 go_enter Tryz.func106, Tryz.ntmps106
 go_upto_region 6 with fail
 have M0 := hiD (show ((wA.alloc (.cells #[.int .i64 most, .slice SA sn sc, .slice (some ⟨blk, off, none⟩) len c, .bool rb] 95)).alloc (.cells #[.int .i64 n.lf.kind, .int .i64 n.depth, .int .i64 n.lf.sign, .int .i64 n.lf.turn, .bool n.lf.mirror, .int .i64 n.lf.state, .int .i64 n.lf.mn, .int .i64 n.lf.mx] 51)).cell? ⟨wA.heap.size, 0, none⟩ = some (.int .i64 most) by go_simp)
 have M1 := hiD (show ((wA.alloc (.cells #[.int .i64 most, .slice SA sn sc, .slice (some ⟨blk, off, none⟩) len c, .bool rb] 95)).alloc (.cells #[.int .i64 n.lf.kind, .int .i64 n.depth, .int .i64 n.lf.sign, .int .i64 n.lf.turn, .bool n.lf.mirror, .int .i64 n.lf.state, .int .i64 n.lf.mn, .int .i64 n.lf.mx] 51)).cell? ⟨wA.heap.size, 1, none⟩ = some (.slice SA sn sc) by go_simp)
 have M2 := hiD (show ((wA.alloc (.cells #[.int .i64 most, .slice SA sn sc, .slice (some ⟨blk, off, none⟩) len c, .bool rb] 95)).alloc (.cells #[.int .i64 n.lf.kind, .int .i64 n.depth, .int .i64 n.lf.sign, .int .i64 n.lf.turn, .bool n.lf.mirror, .int .i64 n.lf.state, .int .i64 n.lf.mn, .int .i64 n.lf.mx] 51)).cell? ⟨wA.heap.size, 2, none⟩ = some (.slice (some ⟨blk, off, none⟩) len c) by go_simp)
 have M3 := hiD (show ((wA.alloc (.cells #[.int .i64 most, .slice SA sn sc, .slice (some ⟨blk, off, none⟩) len c, .bool rb] 95)).alloc (.cells #[.int .i64 n.lf.kind, .int .i64 n.depth, .int .i64 n.lf.sign, .int .i64 n.lf.turn, .bool n.lf.mirror, .int .i64 n.lf.state, .int .i64 n.lf.mn, .int .i64 n.lf.mx] 51)).cell? ⟨wA.heap.size, 3, none⟩ = some (.bool rb) by go_simp)
 have N1 := hiD (show ((wA.alloc (.cells #[.int .i64 most, .slice SA sn sc, .slice (some ⟨blk, off, none⟩) len c, .bool rb] 95)).alloc (.cells #[.int .i64 n.lf.kind, .int .i64 n.depth, .int .i64 n.lf.sign, .int .i64 n.lf.turn, .bool n.lf.mirror, .int .i64 n.lf.state, .int .i64 n.lf.mn, .int .i64 n.lf.mx] 51)).cell? ⟨wA.heap.size + 1, 1, none⟩ = some (.int .i64 n.depth) by go_simp)
 have G2 := hiD (((Gr.refl wA).alloc (.cells #[.int .i64 most, .slice SA sn sc, .slice (some ⟨blk, off, none⟩) len c, .bool rb] 95)).alloc (.cells #[.int .i64 n.lf.kind, .int .i64 n.depth, .int .i64 n.lf.sign, .int .i64 n.lf.turn, .bool n.lf.mirror, .int .i64 n.lf.state, .int .i64 n.lf.mn, .int .i64 n.lf.mx] 51))
 have Z2 := hiD (show ((wA.alloc (.cells #[.int .i64 most, .slice SA sn sc, .slice (some ⟨blk, off, none⟩) len c, .bool rb] 95)).alloc (.cells #[.int .i64 n.lf.kind, .int .i64 n.depth, .int .i64 n.lf.sign, .int .i64 n.lf.turn, .bool n.lf.mirror, .int .i64 n.lf.state, .int .i64 n.lf.mn, .int .i64 n.lf.mx] 51)).heap.size = wA.heap.size + 2 by simp)
 generalize (wA.alloc (.cells #[.int .i64 most, .slice SA sn sc, .slice (some ⟨blk, off, none⟩) len c, .bool rb] 95)).alloc (.cells #[.int .i64 n.lf.kind, .int .i64 n.depth, .int .i64 n.lf.sign, .int .i64 n.lf.turn, .bool n.lf.mirror, .int .i64 n.lf.state, .int .i64 n.lf.mn, .int .i64 n.lf.mx] 51) = W2 at M0 M1 M2 M3 N1 G2 Z2 ⊢
 clear hat hA
 refine region_rel (relS [isV (layv most SA sn sc (some ⟨blk, off, none⟩) len c rb), isV (.int .i64 (i : Nat)), (fun (v : Value) (wx : World) => ∃ (A' : Option Addr) (c' : Nat), v = .slice A' ks.length c' ∧ FigsQ wx (fun b => wA.heap.size ≤ b ∧ b < wx.heap.size) A' 0 ks), isV (.pointer (some ⟨wA.heap.size + 1, 1, none⟩)), isV (.int .i64 n.depth), isV (.int .i64 (sp n.depth)), (fun (v : Value) (wx : World) => ∃ (A' : Option Addr) (c' : Nat), v = .agg #[.slice A' ks.length c', .int .i64 (sp n.depth)] ∧ FigsQ wx (fun b => wA.heap.size ≤ b ∧ b < wx.heap.size) A' 0 ks), (fun (v : Value) (wx : World) => ∃ (A' : Option Addr) (c' : Nat), v = .iface 240 (.agg #[.slice A' ks.length c', .int .i64 (sp n.depth)]) ∧ FigsQ wx (fun b => wA.heap.size ≤ b ∧ b < wx.heap.size) A' 0 ks), (fun (v : Value) (wx : World) => ∃ (A' : Option Addr) (c' : Nat), v = .iface 240 (.agg #[.slice A' ks.length c', .int .i64 (sp n.depth)]) ∧ FigsQ wx (fun b => wA.heap.size ≤ b ∧ b < wx.heap.size) A' 0 ks)]) mixed (by kernel_rfl) (by rfl) (relS_mono ⟨isV_mono _, isV_mono _, fun v w w' hg ⟨A', c', e, h⟩ => ⟨A', c', e, FigsQ.mono (fun b hb => ⟨⟨hb.1, Nat.lt_of_lt_of_le hb.2 hg.b.size⟩, hg.b.block b hb.2⟩) A' 0 ks h⟩, isV_mono _, isV_mono _, isV_mono _, fun v w w' hg ⟨A', c', e, h⟩ => ⟨A', c', e, FigsQ.mono (fun b hb => ⟨⟨hb.1, Nat.lt_of_lt_of_le hb.2 hg.b.size⟩, hg.b.block b hb.2⟩) A' 0 ks h⟩, fun v w w' hg ⟨A', c', e, h⟩ => ⟨A', c', e, FigsQ.mono (fun b hb => ⟨⟨hb.1, Nat.lt_of_lt_of_le hb.2 hg.b.size⟩, hg.b.block b hb.2⟩) A' 0 ks h⟩, fun v w w' hg ⟨A', c', e, h⟩ => ⟨A', c', e, FigsQ.mono (fun b hb => ⟨⟨hb.1, Nat.lt_of_lt_of_le hb.2 hg.b.size⟩, hg.b.block b hb.2⟩) A' 0 ks h⟩, trivial⟩) ?_
 refine ⟨fun w1 hg hdep K hK => ?_, fun v0 => ?_⟩
 ·clear hdep
  have c0 := hg.cell M0.out
  exact tZ81
 simp only [put_lit, List.setIfInBounds_toArray, List.set_cons_succ, List.set_cons_zero]
 refine ⟨fun w1 hg hdep K hK => ?_, fun v1 => ?_⟩
 ·clear hdep
  go_simp
  exact hK.out (.int .i64 (i : Nat)) _ (Gr.refl _) rfl
 simp only [put_lit, List.setIfInBounds_toArray, List.set_cons_succ, List.set_cons_zero]
 refine ⟨fun w1 hg hdep K hK => ?_, fun v2 => ?_⟩
 ·have h0 : v0 = layv most SA sn sc (some ⟨blk, off, none⟩) len c rb := hdep 0 (by kernel_rfl)
  subst h0
  exact tZ36
 simp only [put_lit, List.setIfInBounds_toArray, List.set_cons_succ, List.set_cons_zero]
 refine ⟨fun w1 hg hdep K hK => ?_, fun v3 => ?_⟩
 ·clear hdep
  go_simp
  exact hK.out (.pointer (some ⟨wA.heap.size + 1, 1, none⟩)) _ (Gr.refl _) rfl
 simp only [put_lit, List.setIfInBounds_toArray, List.set_cons_succ, List.set_cons_zero]
 refine ⟨fun w1 hg hdep K hK => ?_, fun v4 => ?_⟩
 ·have h3 : v3 = .pointer (some ⟨wA.heap.size + 1, 1, none⟩) := hdep 3 (by kernel_rfl)
  subst h3
  clear hdep
  have c1 := hg.cell N1.out
  go_simp
  exact hK.out (.int .i64 n.depth) _ (Gr.refl _) rfl
 simp only [put_lit, List.setIfInBounds_toArray, List.set_cons_succ, List.set_cons_zero]
 refine ⟨fun w1 hg hdep K hK => ?_, fun v5 => ?_⟩
 ·have h4 : v4 = .int .i64 n.depth := hdep 4 (by kernel_rfl)
  subst h4
  exact tZ125
 simp only [put_lit, List.setIfInBounds_toArray, List.set_cons_succ, List.set_cons_zero]
 refine ⟨fun w1 hg hdep K hK => ?_, fun v6 => ?_⟩
 ·have h2 := show (fun (v : Value) (wx : World) => ∃ (A' : Option Addr) (c' : Nat), v = .slice A' ks.length c' ∧ FigsQ wx (fun b => wA.heap.size ≤ b ∧ b < wx.heap.size) A' 0 ks) v2 w1 from hdep 2 (by kernel_rfl)
  have h5 : v5 = .int .i64 (sp n.depth) := hdep 5 (by kernel_rfl)
  exact tZ82
 simp only [put_lit, List.setIfInBounds_toArray, List.set_cons_succ, List.set_cons_zero]
 refine ⟨fun w1 hg hdep K hK => ?_, fun v7 => ?_⟩
 ·have h6 := show (fun (v : Value) (wx : World) => ∃ (A' : Option Addr) (c' : Nat), v = .agg #[.slice A' ks.length c', .int .i64 (sp n.depth)] ∧ FigsQ wx (fun b => wA.heap.size ≤ b ∧ b < wx.heap.size) A' 0 ks) v6 w1 from hdep 6 (by kernel_rfl)
  clear hdep
  obtain ⟨A', c', e, hq⟩ := h6
  exact tZ112
 simp only [put_lit, List.setIfInBounds_toArray, List.set_cons_succ, List.set_cons_zero]
 refine ⟨fun w1 hg hdep K hK => ?_, fun v8 => ?_⟩
 ·have h7 := show (fun (v : Value) (wx : World) => ∃ (A' : Option Addr) (c' : Nat), v = .iface 240 (.agg #[.slice A' ks.length c', .int .i64 (sp n.depth)]) ∧ FigsQ wx (fun b => wA.heap.size ≤ b ∧ b < wx.heap.size) A' 0 ks) v7 w1 from hdep 7 (by kernel_rfl)
  clear hdep
  obtain ⟨A', c', e, hq⟩ := h7
  exact tZ112
 simp only [put_lit, List.setIfInBounds_toArray, List.set_cons_succ, List.set_cons_zero]
 intro w1 hg hs
 have h0 : v0 = layv most SA sn sc (some ⟨blk, off, none⟩) len c rb := hs 0 (by decide)
 subst h0
 have h1 : v1 = .int .i64 (i : Nat) := hs 1 (by decide)
 subst h1
 have h2 := show (fun (v : Value) (wx : World) => ∃ (A' : Option Addr) (c' : Nat), v = .slice A' ks.length c' ∧ FigsQ wx (fun b => wA.heap.size ≤ b ∧ b < wx.heap.size) A' 0 ks) v2 w1 from hs 2 (by decide)
 have h3 : v3 = .pointer (some ⟨wA.heap.size + 1, 1, none⟩) := hs 3 (by decide)
 subst h3
 have h4 : v4 = .int .i64 n.depth := hs 4 (by decide)
 subst h4
 have h5 : v5 = .int .i64 (sp n.depth) := hs 5 (by decide)
 subst h5
 have h6 := show (fun (v : Value) (wx : World) => ∃ (A' : Option Addr) (c' : Nat), v = .agg #[.slice A' ks.length c', .int .i64 (sp n.depth)] ∧ FigsQ wx (fun b => wA.heap.size ≤ b ∧ b < wx.heap.size) A' 0 ks) v6 w1 from hs 6 (by decide)
 have h7 := show (fun (v : Value) (wx : World) => ∃ (A' : Option Addr) (c' : Nat), v = .iface 240 (.agg #[.slice A' ks.length c', .int .i64 (sp n.depth)]) ∧ FigsQ wx (fun b => wA.heap.size ≤ b ∧ b < wx.heap.size) A' 0 ks) v7 w1 from hs 7 (by decide)
 have h8 := show (fun (v : Value) (wx : World) => ∃ (A' : Option Addr) (c' : Nat), v = .iface 240 (.agg #[.slice A' ks.length c', .int .i64 (sp n.depth)]) ∧ FigsQ wx (fun b => wA.heap.size ≤ b ∧ b < wx.heap.size) A' 0 ks) v8 w1 from hs 8 (by decide)
 exact tZ67
theorem quiet_of {f : FuncId} {args : Array Value} {v : Value} {w : World} (h : ∀ w1, Gr w w1 → Calls Tryz.prog f args w1 fun e w' => e = .returned v ∧ Gr w1 w') {n : Nat} {os : Array Obj} :
 Calls Tryz.prog f args (Sort.grow (w.drewN n) os) fun e w'' => e = .returned v ∧ ∃ p : GrownBy, w'' = Sort.grow (w.drewN p.n) p.os :=
 Calls.grown_of ((h _ (Gr.of_eq n os)).mono fun _ _ ⟨he, hg⟩ => ⟨he, hg.eq⟩)
set_option maxHeartbeats 4000000 in
theorem fig_leaf (most : Int) (SA : Option Addr) (sn sc : Nat) (A : Option Addr) (len c : Nat) (rb : Bool) (l : List Sg) (ns : List Nd) (i : Nat) (n : Nd) (w : World) (hE : LayEnv w most SA sn sc A len c l ns) (hn : ns[i]? = some n)
 (hk2 : n.lf.kind ≠ 2) (hk3 : n.lf.kind ≠ 3) (hk4 : n.lf.kind ≠ 4) (hk5 : n.lf.kind ≠ 5) (hb : LfB most l n.lf) : FigAns w (layv most SA sn sc A len c rb) i (.leaf i ((zOf most l).w n.lf) ((zOf most l).h n.lf)) := by
 intro wA hgA
 have hE' := hE.gr hgA
 have hi : i < len := by have := (gO hn).1; have := hE.nl; omega
 have hlen := hE.nb
 have hleaf := fun w1 (h1 : Gr wA w1) => leafL_call most SA sn sc A len c rb l ns i n w1 (hE'.gr h1) hn hb
 obtain ⟨blk, off, rfl, hat⟩ := hE'.nd.2 i n hn
 have hblk : blk < wA.heap.size := lcc wA _ hat.c0
 have ti : ((i : Nat) : Int).toNat = i := by omega
 have HL := hiD hleaf
 simp only [NdAt] at hat
 have k2 : (n.lf.kind == 2) = false := by simp [hk2]
 have k3 : (n.lf.kind == 3) = false := by simp [hk3]
 have k4 : (n.lf.kind == 4) = false := by simp [hk4]
 have k5 : (n.lf.kind == 5) = false := by simp [hk5]
 clear hE hE' hn hk2 hk3 hk4 hk5 hgA hleaf hb
 go_enter Tryz.func106, Tryz.ntmps106
 go_wp2_with (go_at_call 154; refine (HL.out _ gw).mono ?_; rintro e w' ⟨rfl, hgw⟩; have HGW := hiD hgw; clear hgw)
 go_ret
 refine ⟨Gr.trans gw HGW.out, _, rfl, rfl⟩
set_option maxHeartbeats 4000000 in
theorem fig_over (most : Int) (SA : Option Addr) (sn sc : Nat) (A : Option Addr) (len c : Nat) (rb : Bool) (l : List Sg) (ns : List Nd) (i : Nat) (n p q : Nd) (w : World) (hE : LayEnv w most SA sn sc A len c l ns) (hn : ns[i]? = some n)
 (hk : n.lf.kind = 4) (hp : ns[i + 1]? = some p) (hq : ns[i + 2]? = some q) (hb : LfB most l p.lf) (hb2 : LfB most l q.lf) :
 FigAns w (layv most SA sn sc A len c rb) i (.over ((i + 1 : Nat) : Int) ((zOf most l).w p.lf) ((zOf most l).h p.lf) ((i + 2 : Nat) : Int) ((zOf most l).w q.lf) ((zOf most l).h q.lf)) := by
 intro wA hgA
 have hE' := hE.gr hgA
 have hi : i < len := by have := (gO hn).1; have := hE.nl; omega
 have hlen := hE.nb
 have hl1 := fun w1 (h1 : Gr wA w1) => leafL_call most SA sn sc A len c rb l ns (i + 1) p w1 (hE'.gr h1) hp hb
 have hl2 := fun w1 (h1 : Gr wA w1) => leafL_call most SA sn sc A len c rb l ns (i + 2) q w1 (hE'.gr h1) hq hb2
 rw [show ((i + 1 : Nat) : Int) = (i : Int) + 1 by omega] at hl1 ⊢
 rw [show ((i + 2 : Nat) : Int) = (i : Int) + 2 by omega] at hl2 ⊢
 obtain ⟨blk, off, rfl, hat⟩ := hE'.nd.2 i n hn
 have hblk : blk < wA.heap.size := lcc wA _ hat.c0
 have ti : ((i : Nat) : Int).toNat = i := by omega
 have H1 := hiD hl1
 have H2 := hiD hl2
 simp only [NdAt] at hat
 have k2 : (n.lf.kind == 2) = false := by simp [hk]
 have k3 : (n.lf.kind == 3) = false := by simp [hk]
 have k4 : (n.lf.kind == 4) = true := by simp [hk]
 have z1 : IntKind.i64.wrap ((i : Int) + 1) = (i : Int) + 1 := IntWalk.i64_in _ ⟨by omega, by omega⟩
 have z2 : IntKind.i64.wrap ((i : Int) + 2) = (i : Int) + 2 := IntWalk.i64_in _ ⟨by omega, by omega⟩
 clear hE hE' hn hk hgA hl1 hl2 hb hb2 hp hq
 go_enter Tryz.func106, Tryz.ntmps106
 go_upto_region 8 with fail
 refine wp_region_quiet_grown mixed (by kernel_rfl) ?_
 repeat (go_big_quiet_step ((first | (go_at_call 154; (with_reducible exact quiet_of (fun w1 h1 => H1.out w1 (Gr.trans gw h1)))) | (go_at_call 154; (with_reducible exact quiet_of (fun w1 h1 => H2.out w1 (Gr.trans gw h1)))))))
 refine wpQuiet_nil ?_
 rintro w' ⟨⟨nq, osq⟩, rfl⟩
 go_wp2
 go_ret
 refine ⟨Gr.trans gw (Gr.of_eq _ _), _, rfl, rfl⟩
theorem tZ27 {P : Prop} (h : P := by
 have HK := hiD (fun w1 (h1 : Gr wA w1) => hks w1 (hgA.trans h1))
 clear hks hgA
 go_enter Tryz.func155, Tryz.ntmps155
 go_wp2_with (go_at_call 153; refine (HK.out _ gw).mono ?_; rintro e w' ⟨hgw, A', c', rfl, hq⟩; have HGW := hiD hgw; have HQ := hiD hq; clear hgw hq)
 go_ret
 refine ⟨Gr.trans gw HGW.out, _, rfl, A', c', rfl, FigsQ.mono (fun b hb => ⟨⟨Nat.le_trans (by simp) hb.1, hb.2⟩, rfl⟩) A' 0 ks HQ.out⟩) : P := h
set_option maxHeartbeats 4000000 in
theorem inside_beside (most : Int) (SA : Option Addr) (sn sc : Nat) (A : Option Addr) (len c : Nat) (i : Nat) (w : World) (ks : List Fig) (hks : KidsAns w (layv most SA sn sc A len c true) i ks) :
 ∀ w1, Gr w w1 → Calls Tryz.prog 155 #[layv most SA sn sc A len c true, .int .i64 i] w1 (FigRet w1 (.beside ks 20)) := by
 intro wA hgA
 exact tZ27
set_option maxHeartbeats 4000000 in
theorem inside_above (most : Int) (SA : Option Addr) (sn sc : Nat) (A : Option Addr) (len c : Nat) (i : Nat) (w : World) (ks : List Fig) (hks : KidsAns w (layv most SA sn sc A len c false) i ks) :
 ∀ w1, Gr w w1 → Calls Tryz.prog 155 #[layv most SA sn sc A len c false, .int .i64 i] w1 (FigRet w1 (.above ks 20)) := by
 intro wA hgA
 exact tZ27
set_option maxHeartbeats 4000000 in
theorem fig_ring (most : Int) (SA : Option Addr) (sn sc : Nat) (A : Option Addr) (len c : Nat) (rb : Bool) (l : List Sg) (ns : List Nd) (i : Nat) (n : Nd) (w : World) (hE : LayEnv w most SA sn sc A len c l ns) (hn : ns[i]? = some n) (hk : n.lf.kind = 5) (f : Fig)
 (hf : ∀ w1, Gr w w1 → Calls Tryz.prog 155 #[layv most SA sn sc A len c rb, .int .i64 i] w1 (FigRet w1 f)) : FigAns w (layv most SA sn sc A len c rb) i (.ring i f) := by
 intro wA hgA
 have hE' := hE.gr hgA
 have hi : i < len := by have := (gO hn).1; have := hE.nl; omega
 have hlen := hE.nb
 obtain ⟨blk, off, rfl, hat⟩ := hE'.nd.2 i n hn
 have hblk : blk < wA.heap.size := lcc wA _ hat.c0
 have ti : ((i : Nat) : Int).toNat = i := by omega
 have HK := hiD (fun w1 (h1 : Gr wA w1) => hf w1 (hgA.trans h1))
 simp only [NdAt] at hat
 have k2 : (n.lf.kind == 2) = false := by simp [hk]
 have k3 : (n.lf.kind == 3) = false := by simp [hk]
 have k4 : (n.lf.kind == 4) = false := by simp [hk]
 have k5 : (n.lf.kind == 5) = true := by simp [hk]
 clear hE hE' hn hk hgA hf
 go_enter Tryz.func106, Tryz.ntmps106
 go_wp2_with (go_at_call 155; refine (HK.out _ gw).mono ?_; rintro e w' ⟨hgw, p, rfl, hq⟩; have HGW := hiD hgw; have HQ := hiD hq; clear hgw hq)
 go_ret
 refine ⟨Gr.trans gw HGW.out, _, rfl, p, rfl, FigQ.mono (fun b hb => ⟨⟨Nat.le_trans (by simp; omega) hb.1, hb.2⟩, rfl⟩) f p HQ.out⟩
end Go.Proofs.OGW
namespace Go.Proofs.OGW
open Go.RowKit Go.Sort OG Go.Shelf Go.PlainAid
mutual
def figOf (z : Sz) (d : Int) (i : Nat) : Tree → Fig
 | .leaf l => .leaf i (z.w l) (z.h l)
 | .over a b => .over ((i + 1 : Nat) : Int) (z.w a) (z.h a) ((i + 2 : Nat) : Int) (z.w b) (z.h b)
 | .beside ks => .beside (figsOf z (d + 1) (i + 1) ks) (sp d)
 | .above ks => .above (figsOf z (d + 1) (i + 1) ks) (sp d)
def figsOf (z : Sz) (d : Int) (i : Nat) : List Tree → List Fig
 | [] => []
 | t :: r => figOf z d i t :: figsOf z d (i + (flat d t).length) r
end
theorem figsOf_len (z : Sz) (d : Int) : ∀ (ks : List Tree) (i : Nat), (figsOf z d i ks).length = ks.length
 | [], _ => rfl
 | t :: r, i => by rw [figsOf, List.length_cons, figsOf_len z d r, List.length_cons]
theorem skipN_all (d : Int) : ∀ (tl rest : List Nd), (∀ n ∈ tl, d < n.depth) → Stop d rest → skipN d (tl ++ rest) = tl.length
 | [], [], _, _ => rfl
 | [], r :: rest, _, hs => by rw [List.nil_append, skipN_no (hs r rfl)]; rfl
 | n :: tl, rest, h, hs => by rw [List.cons_append, skipN_yes (h n (by simp)), skipN_all d tl rest (fun m hm => h m (by simp [hm])) hs]; rfl
theorem get_of_drop {α : Type} {l : List α} {i : Nat} {x : α} {r : List α} (h : l.drop i = x :: r) : l[i]? = some x ∧ l.drop (i + 1) = r := by
 have h1 := congrArg List.head? h
 rw [List.head?_drop] at h1
 refine ⟨by simpa using h1, ?_⟩
 rw [← List.drop_drop, h]
 rfl
theorem drop_add {α : Type} {l : List α} {i : Nat} {a b : List α} (h : l.drop i = a ++ b) : l.drop (i + a.length) = b := by
 rw [← List.drop_drop, h, List.drop_left]
theorem endN_tree {ns : List Nd} {i : Nat} {d : Int} {t : Tree} {rest : List Nd} (h : ns.drop i = flat d t ++ rest) (hs : Stop d rest) : endN ns i = i + (flat d t).length := by
 obtain ⟨f, tl, e, htl⟩ := flat_cons d t
 rw [e] at h ⊢
 rw [List.cons_append] at h
 obtain ⟨h1, h2⟩ := get_of_drop h
 unfold endN
 rw [h1]
 show i + 1 + skipN d (ns.drop (i + 1)) = _
 rw [h2, skipN_all d tl rest htl hs, List.length_cons]
 omega
section
variable (most : Int) (SA : Option Addr) (sn sc : Nat) (A : Option Addr) (len c : Nat) (rb : Bool) (l : List Sg) (ns : List Nd) (w : World) (hE : LayEnv w most SA sn sc A len c l ns) (G : Lf → Prop) (hG : ∀ f, G f → LfB most l f)
include hE hG
mutual
theorem fig_tree : (t : Tree) → (d : Int) → (i : Nat) → (rest : List Nd) → 0 ≤ d → TreeOk G d t → ns.drop i = flat d t ++ rest → Stop d rest → FigAns w (layv most SA sn sc A len c rb) i (figOf (zOf most l) d i t)
 | .leaf f, d, i, rest, h0, hT, hd, hs => by
   have h := (get_of_drop hd).1
   have hk : f.kind = 1 ∨ f.kind = 6 := hT.2.1
   exact fig_leaf most SA sn sc A len c rb l ns i ⟨f, d⟩ w hE h (by show f.kind ≠ 2; omega) (by show f.kind ≠ 3; omega) (by show f.kind ≠ 4; omega) (by show f.kind ≠ 5; omega) (hG f hT.1)
 | .over a b, d, i, rest, h0, hT, hd, hs => by
   obtain ⟨h1, hd1⟩ := get_of_drop hd
   obtain ⟨h2, hd2⟩ := get_of_drop hd1
   obtain ⟨h3, _⟩ := get_of_drop hd2
   exact fig_over most SA sn sc A len c rb l ns i ⟨bare 4, d⟩ ⟨a, d + 1⟩ ⟨b, d + 1⟩ w hE h1 rfl h2 h3 (hG a hT.1) (hG b hT.2.1)
 | .beside ks, d, i, rest, h0, hT, hd, hs => by
   have hdeep := hT.deep
   obtain ⟨h1, hd1⟩ := get_of_drop hd
   have hi : i < len := by have := (gO h1).1; have := hE.nl; omega
   have hend := endN_tree hd hs
   have hl : (flat d (.beside ks)).length = (flats (d + 1) ks).length + 1 := rfl
   have hch := kids_tree ks (d + 1) (i + 1) rest (endN ns i) (by omega) hT.2.2.2 hd1 (hs.mono (by omega)) (by rw [hend, hl]; omega)
   exact fig_beside most SA sn sc A len c rb l ns i ⟨bare 2, d⟩ w hE h1 rfl (by show -1000000 ≤ d; omega) (by show d ≤ 1000000; omega) _
    (kids_call most SA sn sc A len c rb l ns i w hE hi _ hch (by rw [figsOf_len]; have := hT.2.1; omega))
 | .above ks, d, i, rest, h0, hT, hd, hs => by
   have hdeep := hT.deep
   obtain ⟨h1, hd1⟩ := get_of_drop hd
   have hi : i < len := by have := (gO h1).1; have := hE.nl; omega
   have hend := endN_tree hd hs
   have hl : (flat d (.above ks)).length = (flats (d + 1) ks).length + 1 := rfl
   have hch := kids_tree ks (d + 1) (i + 1) rest (endN ns i) (by omega) hT.2.2.2 hd1 (hs.mono (by omega)) (by rw [hend, hl]; omega)
   exact fig_above most SA sn sc A len c rb l ns i ⟨bare 3, d⟩ w hE h1 rfl (by show -1000000 ≤ d; omega) (by show d ≤ 1000000; omega) _
    (kids_call most SA sn sc A len c rb l ns i w hE hi _ hch (by rw [figsOf_len]; have := hT.2.1; omega))
theorem kids_tree : (ks : List Tree) → (d : Int) → (j : Nat) → (rest : List Nd) → (e : Nat) → 0 ≤ d → TreesOk G d ks → ns.drop j = flats d ks ++ rest → Stop d rest → e = j + (flats d ks).length →
 KidsChain (FigAns w (layv most SA sn sc A len c rb)) ns e j (figsOf (zOf most l) d j ks)
 | [], d, j, rest, e, h0, hT, hd, hs, he => by
   show j = e
   rw [he]; rfl
 | t :: r, d, j, rest, e, h0, hT, hd, hs, he => by
   have hd' : ns.drop j = flat d t ++ (flats d r ++ rest) := by rw [hd, flats, List.append_assoc]
   have hst := stop_flats d r rest hs
   have hen := endN_tree hd' hst
   have hl : (flats d (t :: r)).length = (flat d t).length + (flats d r).length := by rw [flats, List.length_append]
   obtain ⟨f, tl, ef, _⟩ := flat_cons d t
   have hpos : 0 < (flat d t).length := by rw [ef]; simp
   refine ⟨by omega, fig_tree t d j _ h0 hT.1 hd' hst, ?_⟩
   rw [hen]
   exact kids_tree r d (j + (flat d t).length) rest e h0 hT.2 (drop_add hd') hs (by omega)
end
end
end Go.Proofs.OGW
