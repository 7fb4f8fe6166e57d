import Derived.Test.YtmejcmollpbcfaaGreatP28
set_option linter.all false
namespace Go.Proofs.OGW
open Go.RowKit Go.Sort OG
mutual
theorem figW_of (z : Sz) : ∀ (t : Tree) (d : Int) (i : Nat), figW (figOf z d i t) = natW z d t ∧ figH (figOf z d i t) = natH z d t
 | .leaf l, d, i => ⟨rfl, rfl⟩
 | .over a b, d, i => ⟨rfl, rfl⟩
 | .beside ks, d, i => by
   obtain ⟨h1, h2, h3, h4⟩ := figsW_of z ks (d + 1) (sp d) (i + 1)
   simp only [figOf, figW, figH, natW, natH, figsOf_len]
   refine ⟨?_, h4⟩
   rw [h1, Int.mul_sub]
   omega
 | .above ks, d, i => by
   obtain ⟨h1, h2, h3, h4⟩ := figsW_of z ks (d + 1) (sp d) (i + 1)
   simp only [figOf, figW, figH, natW, natH, figsOf_len]
   refine ⟨h3, ?_⟩
   rw [h2, Int.mul_sub]
   omega
theorem figsW_of (z : Sz) : ∀ (ks : List Tree) (d s : Int) (i : Nat), sumW z s d ks = sumFW (figsOf z d i ks) + s * (ks.length : Int) ∧ sumH z s d ks = sumFH (figsOf z d i ks) + s * (ks.length : Int) ∧
 maxFW (figsOf z d i ks) = maxW z d ks ∧ maxFH (figsOf z d i ks) = maxH z d ks
 | [], d, s, i => by simp [sumW, sumH, figsOf, sumFW, sumFH, maxFW, maxFH, maxW, maxH]
 | t :: r, d, s, i => by
   obtain ⟨h1, h2⟩ := figW_of z t d i
   obtain ⟨h3, h4, h5, h6⟩ := figsW_of z r d s (i + (flat d t).length)
   simp only [sumW, sumH, figsOf, sumFW, sumFH, maxFW, maxFH, maxW, maxH, List.length_cons, h1, h2, h5, h6, Int.natCast_add, Int.mul_add]
   refine ⟨by omega, by omega, trivial, trivial⟩
end
def All2 {α β : Type} (R : α → β → Prop) : List α → List β → Prop
 | [], [] => True
 | a :: l, b :: m => R a b ∧ All2 R l m
 | _, _ => False
theorem All2.append {α β : Type} {R : α → β → Prop} : ∀ {l1 : List α} {m1 : List β} {l2 : List α} {m2 : List β}, All2 R l1 m1 → All2 R l2 m2 → All2 R (l1 ++ l2) (m1 ++ m2)
 | [], [], _, _, _, h => h
 | a :: l, b :: m, _, _, h, k => ⟨h.1, All2.append h.2 k⟩
 | [], b :: m, _, _, h, _ => h.elim
 | a :: l, [], _, _, h, _ => h.elim
theorem All2.map {α β γ : Type} {R : α → β → Prop} {f : α → γ} {g : β → γ} (hfg : ∀ a b, R a b → f a = g b) : ∀ {l : List α} {m : List β}, All2 R l m → l.map f = m.map g
 | [], [], _ => rfl
 | a :: l, b :: m, h => by rw [List.map_cons, List.map_cons, hfg a b h.1, All2.map hfg h.2]
 | [], b :: m, h => h.elim
 | a :: l, [], h => h.elim
def Same1 (ns : List Nd) (q : Spot) (p : Sq) : Prop := 0 ≤ q.node ∧ (ns[q.node.toNat]?).map Nd.lf = some p.lf ∧ q.x = p.x ∧ q.y = p.y ∧ q.w = p.w ∧ q.h = p.h
mutual
theorem spots_place (z : Sz) (ns : List Nd) : ∀ (t : Tree) (d : Int) (i : Nat) (x y : Int) (rest : List Nd), ns.drop i = flat d t ++ rest → All2 (Same1 ns) (spots (figOf z d i t) x y) (place z d t x y)
 | .leaf l, d, i, x, y, rest, h => by
   have h1 := (get_of_drop h).1
   refine ⟨⟨by simp, ?_, rfl, rfl, rfl, rfl⟩, trivial⟩
   simp [h1]
 | .over a b, d, i, x, y, rest, h => by
   obtain ⟨_, h1⟩ := get_of_drop h
   obtain ⟨h2, h3⟩ := get_of_drop h1
   obtain ⟨h4, _⟩ := get_of_drop h3
   refine ⟨⟨?_, ?_, rfl, rfl, rfl, rfl⟩, ⟨?_, ?_, rfl, rfl, rfl, rfl⟩, trivial⟩
   ·show (0 : Int) ≤ ((i + 1 : Nat) : Int)
    omega
   ·show (ns[((i + 1 : Nat) : Int).toNat]?).map Nd.lf = _
    rw [Int.toNat_natCast, h2]; rfl
   ·show (0 : Int) ≤ ((i + 2 : Nat) : Int)
    omega
   ·show (ns[((i + 2 : Nat) : Int).toNat]?).map Nd.lf = _
    rw [Int.toNat_natCast, show i + 2 = i + 1 + 1 from rfl, h4]; rfl
 | .beside ks, d, i, x, y, rest, h => by
   obtain ⟨_, h1⟩ := get_of_drop h
   simp only [figOf, spots, place]
   rw [(figsW_of z ks (d + 1) 0 (i + 1)).2.2.2]
   exact spotsB_place z ns ks (d + 1) (sp d) _ (i + 1) x y rest h1
 | .above ks, d, i, x, y, rest, h => by
   obtain ⟨_, h1⟩ := get_of_drop h
   simp only [figOf, spots, place]
   rw [(figsW_of z ks (d + 1) 0 (i + 1)).2.2.1]
   exact spotsA_place z ns ks (d + 1) (sp d) _ (i + 1) x y rest h1
theorem spotsB_place (z : Sz) (ns : List Nd) : ∀ (ks : List Tree) (d s m : Int) (i : Nat) (x y : Int) (rest : List Nd), ns.drop i = flats d ks ++ rest → All2 (Same1 ns) (spotsB s m (figsOf z d i ks) x y) (placeB z s d m ks x y)
 | [], _, _, _, _, _, _, _, _ => trivial
 | t :: r, d, s, m, i, x, y, rest, h => by
   have h' : ns.drop i = flat d t ++ (flats d r ++ rest) := by rw [h, flats, List.append_assoc]
   obtain ⟨e1, e2⟩ := figW_of z t d i
   simp only [figsOf, spotsB, placeB, e1, e2]
   exact All2.append (spots_place z ns t d i _ _ _ h') (spotsB_place z ns r d s m _ _ _ rest (drop_add h'))
theorem spotsA_place (z : Sz) (ns : List Nd) : ∀ (ks : List Tree) (d s m : Int) (i : Nat) (x y : Int) (rest : List Nd), ns.drop i = flats d ks ++ rest → All2 (Same1 ns) (spotsA s m (figsOf z d i ks) x y) (placeA z s d m ks x y)
 | [], _, _, _, _, _, _, _, _ => trivial
 | t :: r, d, s, m, i, x, y, rest, h => by
   have h' : ns.drop i = flat d t ++ (flats d r ++ rest) := by rw [h, flats, List.append_assoc]
   obtain ⟨e1, e2⟩ := figW_of z t d i
   simp only [figsOf, spotsA, placeA, e1, e2]
   exact All2.append (spots_place z ns t d i _ _ _ h') (spotsA_place z ns r d s m _ _ _ rest (drop_add h'))
end
end Go.Proofs.OGW
namespace Go.Proofs.OGW
open Go.RowKit Go.Sort OG Go.Shelf Go.PlainAid
attribute [local go_sem] sA fv sB sG sC Nat.zero_add
attribute [local go_sem ↓] ld66 ld51 st66 st51
set_option maxHeartbeats 1000000 in
theorem pageCheck4_call (way len : Int) : Ans 26 #[pgv way len] (.int .i64 (pageE way len)) := by
 intro w
 have hcase : (way < 1 ∧ pageE way len = 40) ∨ (1 ≤ way ∧ 4 < way ∧ pageE way len = 40) ∨ (1 ≤ way ∧ way ≤ 4 ∧ len < 48 ∧ pageE way len = 40) ∨ (1 ≤ way ∧ way ≤ 4 ∧ 48 ≤ len ∧ 4800 < len ∧ pageE way len = 40) ∨
  (1 ≤ way ∧ way ≤ 4 ∧ 48 ≤ len ∧ len ≤ 4800 ∧ pageE way len = 0) := by
  unfold pageE pageOk
  exact tZ105
 rcases hcase with ⟨h1, hv⟩ | ⟨h1, h2, hv⟩ | ⟨h1, h2, h3, hv⟩ | ⟨h1, h2, h3, h4, hv⟩ | ⟨h1, h2, h3, h4, hv⟩
 all_goals
  rw [hv]
  clear hv
  go_enter Tryz.func26, Tryz.ntmps26
  exact tZ92
set_option maxHeartbeats 1000000 in
theorem leaf2_call (k : Int) : Ans 136 #[.int .i64 k] (.bool (decide (k = 1) || decide (k = 6))) := by
 intro w
 by_cases h1 : k = 1
 ·subst h1
  go_enter Tryz.func136, Tryz.ntmps136
  exact tZ92
 ·have d1 : (k == 1) = false := by simpa using h1
  have e1 : decide (k = 1) = false := by simpa using h1
  by_cases h6 : k = 6
  ·subst h6
   go_enter Tryz.func136, Tryz.ntmps136
   exact tZ92
  ·have d6 : (k == 6) = false := by simpa using h6
   have e6 : decide (k = 6) = false := by simpa using h6
   rw [e1, e6]
   clear h1 h6
   go_enter Tryz.func136, Tryz.ntmps136
   exact tZ92
set_option maxRecDepth 100000 in
set_option maxHeartbeats 4000000 in
theorem parent_call (A : Option Addr) (len c : Nat) (ns : List Nd) (i : Nat) (n : Nd) (w : World) (hnd : NdRow w A ns) (hl : ns.length = len) (hlen : len ≤ 1000000) (hn : ns[i]? = some n) :
 Calls Tryz.prog 72 #[.agg #[.slice A len c], .int .i64 (i : Nat)] w fun e w' => e = .returned (.int .i64 (parN ns n.depth i)) ∧ Gr w w' := by
 have hi : i < len := by have := (gO hn).1; omega
 obtain ⟨blk, off, rfl, hat⟩ := hnd.2 _ n hn
 have hblk : blk < w.heap.size := lcc w _ hat.c0
 simp only [NdAt] at hat
 have HND := hiD hnd
 have HL := hiD hl
 have ti : ((i : Nat) : Int).toNat = i := by omega
 have hw1 : IntKind.i64.wrap ((i : Int) - 1) = (i : Int) - 1 := IntWalk.i64_in _ ⟨by omega, by omega⟩
 obtain ⟨res, hres⟩ : ∃ res, res = parN ns n.depth i := ⟨_, rfl⟩
 rw [← hres]
 have HRES := hiD hres
 clear hnd hl hn hres
 go_enter Tryz.func72, Tryz.ntmps72
 go_upto_region 2 with fail
 have m0 : (w.alloc (.cells #[.slice (some ⟨blk, off, none⟩) len c] 33)).cell? ⟨w.heap.size, 0, none⟩ = some (.slice (some ⟨blk, off, none⟩) len c) := by go_simp
 have g1 : Gr w (w.alloc (.cells #[.slice (some ⟨blk, off, none⟩) len c] 33)) := (Gr.refl w).alloc _
 generalize w.alloc (.cells #[.slice (some ⟨blk, off, none⟩) len c] 33) = w1 at m0 g1 ⊢
 have M0 := hiD m0
 have G1 := hiD g1
 have HAT := hiD hat
 clear m0 g1 hat
 go_loopw [5] (fun x wr => ∃ j : Nat, x = .int .i64 ((j : Int) - 1) ∧ j ≤ i ∧ Hid (res = parN ns n.depth j) ∧ Hid (Gr w1 wr)) (fun x _ => (intOf x + 1).toNat)
 case atStart => exact ⟨i, rfl, Nat.le_refl _, HRES.out, Gr.refl _⟩
 case round =>
  obtain ⟨j, rfl, hj, HR, HG⟩ := hrel
  rcases j with _ | m
  ·have d0 : decide ((0 : Int) ≤ ((0 : Nat) : Int) - 1) = false := by decide
   go_wp2_with fail
   go_ret
   exact ⟨by rw [HR.out]; rfl, G1.out.trans HG.out⟩
  ·have em : (((m + 1 : Nat) : Int) - 1) = (m : Int) := by omega
   rw [em]
   have d0 : decide ((0 : Int) ≤ (m : Int)) = true := by simp
   have tm : ((m : Nat) : Int).toNat = m := by omega
   have hm : m < ns.length := by rw [HL.out]; omega
   obtain ⟨p, hp⟩ : ∃ p, ns[m]? = some p := ⟨_, gE hm⟩
   obtain ⟨blk2, off2, e2, hatp⟩ := HND.out.2 m p hp
   obtain ⟨rfl, rfl⟩ : blk = blk2 ∧ off = off2 := by simpa using e2
   have c0 := HG.out.cell M0.out
   have n0 := lcc wr _ c0
   have hgw := G1.out.trans HG.out
   have p1 := hgw.cell hatp.c1
   have i1 := hgw.cell (show w.cell? ⟨blk, off + i * 8 + 1, none⟩ = some (.int .i64 n.depth) from rowV_cell HAT.out 1 _ rfl)
   have nb := lcc wr _ p1
   have ml : m < len := by omega
   have HPP := hiD hp
   clear hp e2 hatp em hm
   go_upto_region 4 with fail
   refine wp_region_quiet_grown mixed (by kernel_rfl) ?_
   repeat (go_big_quiet_step (fail))
   refine wpQuiet_nil ?_
   rintro w' ⟨⟨nq, osq⟩, rfl⟩
   have hg2 : Gr wr (Sort.grow (wr.drewN nq) osq) := Gr.of_eq _ _
   generalize Sort.grow (wr.drewN nq) osq = w2 at hg2 ⊢
   have HG2 := hiD (HG.out.trans hg2)
   clear hg2 hgw c0 n0 p1 i1 nb
   by_cases hlt : p.depth < n.depth
   ·have d1 : decide (p.depth < n.depth) = true := by simp [hlt]
    have hv : res = (m : Int) := by rw [HR.out, parN, HPP.out]; simp [hlt]
    subst hv
    go_wp2_with fail
    go_ret
    exact ⟨rfl, G1.out.trans HG2.out⟩
   ·have d1 : decide (p.depth < n.depth) = false := by simp; omega
    have hv : res = parN ns n.depth m := by rw [HR.out, parN, HPP.out]; simp [hlt]
    have HV := hiD hv
    have hw2 : IntKind.i64.wrap ((m : Int) - 1) = (m : Int) - 1 := IntWalk.i64_in _ ⟨by omega, by omega⟩
    clear hv
    go_wp2_with fail
    go_roundw
    case rel => exact ⟨m, rfl, by omega, HV.out, HG2.out⟩
    case measure => simp [intOf]
theorem info3 : (Tryz.prog.info? 3).map (fun i => (i.zero, i.size, i.bytes)) = some (some (.int .i64 0), 1, 8) := by kernel_rfl
def intc (xs : List Nat) : List Value := xs.map fun k : Nat => .int .i64 (k : Int)
abbrev OwnI (w : World) (B : Nat) (v : Value) (xs : List Nat) : Prop := w.ownsRow B 3 1 v xs.length (intc xs)
theorem OwnI.nil (w : World) (B : Nat) : OwnI w B (.slice none 0 0) [] := World.ownsRow_nil w B 3 1
theorem OwnI.gr {w w' : World} {B : Nat} {v : Value} {xs : List Nat} (h : OwnI w B v xs) (hg : Gr w w') : OwnI w' B v xs := h.kept (Gr.by hg) (by cases v.ownBlock <;> simp)
theorem OwnI.row {w : World} {B : Nat} {v : Value} {xs : List Nat} (h : OwnI w B v xs) : ∃ A c, v = .slice A xs.length c ∧ ∀ (i : Nat) (k : Nat), xs[i]? = some k → ∃ b, A = some ⟨b, 0, none⟩ ∧ w.cell? ⟨b, i, none⟩ = some (.int .i64 (k : Int)) := by
 rcases h.2 with ⟨rfl, h0⟩ | ⟨g, cap, cur, rfl, hb, hg, h1, h2, h3, h4⟩
 ·have : xs = [] := List.eq_nil_of_length_eq_zero h0
  subst this
  exact ⟨none, 0, rfl, fun i g hg => by simp at hg⟩
 ·refine ⟨_, cap, rfl, fun i k hk => ⟨g, rfl, ?_⟩⟩
  have := h.cells (g := g) rfl i (.int .i64 (k : Int)) (by simp [intc, hk])
  exact tZ123
theorem wpList_ints {w : World} {ops : Array Oper} {rest : List Oper} {o : Oper} {a : Act} {Q : Exit → Act → World → Prop} (hgd : o.guard = none) (s x : Operand)
 (ho : o.op = .call { callee := .builtin .append, args := #[s, x], argTypes := #[57, 57] }) (B : Nat) (v : Value) (xs : List Nat) (hs : a.eval s = v) (hown : OwnI w B v xs)
 (g c : Nat) (k : Nat) (hx : a.eval x = .slice (some ⟨g, 0, none⟩) 1 c) (hq : w.cell? ⟨g, 0, none⟩ = some (.int .i64 (k : Int))) (hb : xs.length ≤ 2000000) (hbase : B ≤ w.heap.size)
 (h : ∀ v' w', Hid (OwnI w' B v' (xs ++ [k])) → Hid (RowStep w w' v v') → wpList Tryz.prog ops Q rest (a.put o.dst v') w') : wpList Tryz.prog ops Q (o :: rest) a w := by
 obtain ⟨i0, hi, hz0, hz1, hz2⟩ := info_parts info3
 refine wpList_app2 hgd s x 57 ho B 3 i0 _ 1 8 Tryz.underlying57 hi hz0 hz1 hz2 rfl (by decide) v xs.length (intc xs) hs hown ⟨g, 0, none⟩ 1 c [.int .i64 (k : Int)] hx rfl ?_ ?_ (by unfold maxLen; omega) (by omega) hbase ?_
 ·intro j u hu
  rw [Addr.add_lit, Nat.zero_add]
  rcases j with _ | j
  ·simp at hu; subst hu; exact hq
  ·simp at hu
 ·intro u hu; simp at hu; subst hu; rfl
 ·intro v' w' HO Hg Hd Hl
  refine h v' w' ?_ ⟨Hg.out, Hd.out, Hl.out⟩
  have := HO.out
  show w'.ownsRow B 3 1 v' (xs ++ [k]).length (intc (xs ++ [k]))
  rw [show intc (xs ++ [k]) = intc xs ++ [.int .i64 (k : Int)] by simp [intc], List.length_append]
  exact this
theorem tZ54 {P : Prop} (h : P := by
 have HV := hiD hv
 clear hv
 go_wp2_with fail
 go_ret
 exact ⟨_, rfl, by rw [HV.out]; exact ⟨HO.out.1, HO.out.2.imp id fun ⟨g, cap, cur, e, hb, rest⟩ => ⟨g, cap, cur, e, Nat.le_trans szw hb, rest⟩⟩, G1.out.trans HG.out⟩) : P := h
set_option maxRecDepth 100000 in
set_option maxHeartbeats 4000000 in
theorem kids2_call (A : Option Addr) (len c : Nat) (ns : List Nd) (i : Nat) (n : Nd) (w : World) (hnd : NdRow w A ns) (hl : ns.length = len) (hlen : len ≤ 1000000) (hn : ns[i]? = some n) (hd0 : -1000000 ≤ n.depth) (hd1 : n.depth ≤ 1000000) :
 Calls Tryz.prog 119 #[.agg #[.slice A len c], .int .i64 (i : Nat)] w fun e w' => ∃ v, e = .returned v ∧ OwnI w' w.heap.size v (kgo (n.depth + 1) (i + 1) (ns.drop (i + 1))) ∧ Gr w w' := by
 have hi : i < len := by have := (gO hn).1; omega
 obtain ⟨blk, off, rfl, hat⟩ := hnd.2 _ n hn
 have hblk : blk < w.heap.size := lcc w _ hat.c0
 have hdc := hat.c1
 have HND := hiD hnd
 have HL := hiD hl
 have ti : ((i : Nat) : Int).toNat = i := by omega
 have hw1 : IntKind.i64.wrap ((i : Int) + 1) = (i : Int) + 1 := IntWalk.i64_in _ ⟨by omega, by omega⟩
 have hw2 : IntKind.i64.wrap (n.depth + 1) = n.depth + 1 := IntWalk.i64_in _ ⟨by omega, by omega⟩
 have hge : decide ((0 : Int) ≤ (i : Int)) = true := by simp
 obtain ⟨d, hd⟩ : ∃ d, d = n.depth + 1 := ⟨_, rfl⟩
 obtain ⟨res, hres⟩ : ∃ res, res = kgo d (i + 1) (ns.drop (i + 1)) := ⟨_, rfl⟩
 rw [← hd, ← hres]
 rw [← hd] at hw2
 have HRES := hiD hres
 have HD := hiD hd
 clear hnd hl hn hres hat
 go_enter Tryz.func119, Tryz.ntmps119
 go_upto_region 6 with fail
 have m0 : (w.alloc (.cells #[.slice (some ⟨blk, off, none⟩) len c] 33)).cell? ⟨w.heap.size, 0, none⟩ = some (.slice (some ⟨blk, off, none⟩) len c) := by go_simp
 have g1 : Gr w (w.alloc (.cells #[.slice (some ⟨blk, off, none⟩) len c] 33)) := (Gr.refl w).alloc _
 generalize w.alloc (.cells #[.slice (some ⟨blk, off, none⟩) len c] 33) = w1 at m0 g1 ⊢
 have M0 := hiD m0
 have G1 := hiD g1
 have szw := g1.b.size
 clear m0 g1 hdc
 go_loopw [7, 5] (fun x y wr => ∃ (j : Nat) (out : List Nat), x = .int .i64 (j : Int) ∧ j ≤ len ∧ out.length ≤ j ∧ Hid (OwnI wr w1.heap.size y out) ∧ Hid (res = out ++ kgo d j (ns.drop j)) ∧ Hid (Gr w1 wr)) (fun x _ _ => len - (intOf x).toNat)
 case atStart => exact ⟨i + 1, [], by go_num, by omega, by simp, OwnI.nil _ _, HRES.out, Gr.refl _⟩
 case round =>
  obtain ⟨j, out, rfl, hj, hol, HO, HR, HG⟩ := hrel
  have c0 := HG.out.cell M0.out
  have n0 := lcc wr _ c0
  by_cases hlt : j < len
  ·have hd1' : decide ((j : Int) < (len : Int)) = true := by simp; omega
   have tj : ((j : Nat) : Int).toNat = j := by omega
   obtain ⟨p, hp⟩ : ∃ p, ns[j]? = some p := ⟨_, gE (by rw [HL.out]; exact hlt)⟩
   obtain ⟨blk2, off2, e2, hatp⟩ := HND.out.2 j p hp
   obtain ⟨rfl, rfl⟩ : blk = blk2 ∧ off = off2 := by simpa using e2
   have p1 := (G1.out.trans HG.out).cell hatp.c1
   have nb := lcc wr _ p1
   have hdr : ns.drop j = p :: ns.drop (j + 1) := by rw [List.drop_eq_getElem_cons (gO hp).1, (gO hp).2]
   have hR := HR.out
   rw [hdr, kgo] at hR
   have HR2 := hiD hR
   have hw3 : IntKind.i64.wrap ((j : Int) + 1) = (j : Int) + 1 := IntWalk.i64_in _ ⟨by omega, by omega⟩
   clear hp e2 hatp hdr hR
   by_cases hlt2 : p.depth < d
   ·have e1 : decide (d ≤ p.depth) = false := by simp; omega
    have hv : res = out := by rw [HR2.out, if_pos hlt2, List.append_nil]
    exact tZ54
   ·have e1 : decide (d ≤ p.depth) = true := by simp; omega
    by_cases heq : p.depth = d
    ·have e2 : (p.depth == d) = true := by simp [heq]
     have hv : res = (out ++ [j]) ++ kgo d (j + 1) (ns.drop (j + 1)) := by rw [HR2.out, if_neg hlt2, if_pos heq]; simp
     have HV := hiD hv
     have szr : w1.heap.size ≤ wr.heap.size := HG.out.b.size
     clear hv
     go_wp2_with (at_builtin; refine wpList_ints rfl _ _ rfl w1.heap.size _ out rfl (HO.out.gr gw) _ _ j rfl (by go_simp) (by omega) (by simp; omega) ?_; intro v4 w4 HO4 HS4)
     go_roundw
     case rel =>
      refine ⟨j + 1, out ++ [j], by go_num, by omega, by rw [List.length_append, List.length_singleton]; omega, HO4.out, HV.out, ?_⟩
      exact Gr.grown (HG.out.alloc _) HS4.out.by' (fun q hq => (HO.out.lt q hq).1) HS4.out.dr
     case measure => simp [intOf]; omega
    ·have e2 : (p.depth == d) = false := by simpa using heq
     have hv : res = out ++ kgo d (j + 1) (ns.drop (j + 1)) := by rw [HR2.out, if_neg hlt2, if_neg heq]
     have HV := hiD hv
     clear hv
     go_wp2_with fail
     go_roundw
     case rel => exact ⟨j + 1, out, by go_num, by omega, by omega, HO.out, HV.out, HG.out⟩
     case measure => simp [intOf]; omega
  ·obtain rfl : j = len := by omega
   have hd1' : decide ((j : Int) < (j : Int)) = false := by simp
   have hv : res = out := by rw [HR.out, List.drop_eq_nil_of_le (by rw [HL.out]; exact Nat.le_refl _), kgo, List.append_nil]
   exact tZ54
end Go.Proofs.OGW
namespace Go.Proofs.OGW
open Go.RowKit Go.Sort OG Go.Shelf Go.PlainAid
attribute [local go_sem] sA fv sB sG sC Nat.zero_add guard51
attribute [local go_sem ↓] ld66 ld51 st66 st51 eq51 ne51
theorem neqN2 (x y : Nd) (w : World) : (neqV 51 (nv x) (nv y)).run Tryz.prog w = .ok (.bool (!decide (x = y))) w := by
 have := eqNode x y w
 simp only [nv] at this ⊢
 rw [neqV, run_neq_struct, this]
 rfl
attribute [local go_sem] neqN2
theorem guardN (op : BinOp) (x y : Operand) (a b : Nd) (w : World) : (eqGuard op 51 x y (nv a) (nv b)).run Tryz.prog w = .ok () w := guard51 op x y _ _ w
attribute [local go_sem] guardN
set_option maxRecDepth 100000 in
set_option maxHeartbeats 4000000 in
theorem same_call (A B : Option Addr) (len c len2 c2 : Nat) (ns ms : List Nd) (w : World) (hA : NdRow w A ns) (hB : NdRow w B ms) (hl : ns.length = len) (hl2 : ms.length = len2) (hlen : len ≤ 1000000) (hlen2 : len2 ≤ 1000000) :
 Calls Tryz.prog 14 #[.agg #[.slice A len c], .agg #[.slice B len2 c2]] w fun e w' => e = .returned (.bool (decide (ns = ms))) ∧ Gr w w' := by
 have HA := hiD hA
 have HB := hiD hB
 have HL := hiD hl
 have HL2 := hiD hl2
 obtain ⟨res, hres⟩ : ∃ res, res = decide (ns = ms) := ⟨_, rfl⟩
 rw [← hres]
 have HRES := hiD hres
 clear hA hB hl hl2 hres
 by_cases hne : len = len2
 ·subst hne
  have d0 : ((len : Int) != (len : Int)) = false := by simp
  go_enter Tryz.func14, Tryz.ntmps14
  go_upto_region 4 with fail
  have m0 : ((w.alloc (.cells #[.slice A len c] 33)).alloc (.cells #[.slice B len c2] 33)).cell? ⟨w.heap.size, 0, none⟩ = some (.slice A len c) := by go_simp
  have m1 : ((w.alloc (.cells #[.slice A len c] 33)).alloc (.cells #[.slice B len c2] 33)).cell? ⟨w.heap.size + 1, 0, none⟩ = some (.slice B len c2) := by go_simp
  have g1 : Gr w ((w.alloc (.cells #[.slice A len c] 33)).alloc (.cells #[.slice B len c2] 33)) := ((Gr.refl w).alloc _).alloc _
  generalize (w.alloc (.cells #[.slice A len c] 33)).alloc (.cells #[.slice B len c2] 33) = w1 at m0 m1 g1 ⊢
  have M0 := hiD m0
  have M1 := hiD m1
  have G1 := hiD g1
  clear m0 m1 g1
  go_loopw [5] (fun x wr => ∃ q : Nat, x = .int .i64 (q : Int) ∧ q ≤ len ∧ Hid (ns.take q = ms.take q) ∧ Hid (Gr w1 wr)) (fun x _ => len - (intOf x).toNat)
  case atStart => exact ⟨0, rfl, Nat.zero_le _, rfl, Gr.refl _⟩
  case round =>
   obtain ⟨q, rfl, hq, HT, HG⟩ := hrel
   have c0 := HG.out.cell M0.out
   have c1 := HG.out.cell M1.out
   have n0 := lcc wr _ c0
   have n1 := lcc wr _ c1
   by_cases hlt : q < len
   ·have d1 : decide ((q : Int) < (len : Int)) = true := by simp; omega
    have tq : ((q : Nat) : Int).toNat = q := by omega
    obtain ⟨x, hx⟩ : ∃ x, ns[q]? = some x := ⟨_, gE (by rw [HL.out]; exact hlt)⟩
    obtain ⟨y, hy⟩ : ∃ y, ms[q]? = some y := ⟨_, gE (by rw [HL2.out]; exact hlt)⟩
    obtain ⟨b1, o1, rfl, ha⟩ := (HA.out.gr (G1.out.trans HG.out)).2 q x hx
    obtain ⟨b2, o2, rfl, hb⟩ := (HB.out.gr (G1.out.trans HG.out)).2 q y hy
    simp only [NdAt] at ha hb
    have r1 := lcc wr _ (rowV_cell ha 0 _ rfl)
    have r2 := lcc wr _ (rowV_cell hb 0 _ rfl)
    have HX := hiD hx
    have HY := hiD hy
    clear hx hy
    go_upto_region 6 with fail
    refine wp_region_quiet_grown mixed (by kernel_rfl) ?_
    repeat (go_big_quiet_step (fail))
    refine wpQuiet_nil ?_
    rintro w' ⟨⟨nq, osq⟩, rfl⟩
    have hg2 : Gr wr (Sort.grow (wr.drewN nq) osq) := Gr.of_eq _ _
    generalize Sort.grow (wr.drewN nq) osq = w2 at hg2 ⊢
    have HG2 := hiD (HG.out.trans hg2)
    clear hg2 ha hb r1 r2 c0 c1 n0 n1
    obtain ⟨bb, hbb⟩ : ∃ bb, bb = (!decide (x = y)) := ⟨_, rfl⟩
    rw [← hbb]
    have HBB := hiD hbb
    clear hbb
    cases bb
    ·have hxy : x = y := by have := HBB.out; simpa using this.symm
     have HXY := hiD hxy
     clear hxy
     go_wp2_with fail
     go_roundw
     case rel =>
      refine ⟨q + 1, by go_num, by omega, ?_, HG2.out⟩
      show _ = _
      rw [List.take_add_one, List.take_add_one, HT.out, HX.out, HY.out, HXY.out]
     case measure => simp [intOf]; omega
    ·have hxy : x ≠ y := by
      intro h
      have := HBB.out
      rw [h] at this
      simp at this
     have hv : res = false := by
      rw [HRES.out]
      simp only [decide_eq_false_iff_not]
      intro h
      have h1 := HX.out
      rw [h, HY.out] at h1
      exact hxy (Option.some.inj h1).symm
     subst hv
     clear hxy
     go_wp2_with fail
     go_ret
     exact ⟨rfl, G1.out.trans HG2.out⟩
   ·obtain rfl : q = len := by omega
    have d1 : decide ((q : Int) < (q : Int)) = false := by simp
    have hv : res = true := by
     rw [HRES.out]
     have := HT.out
     rw [List.take_of_length_le (by rw [HL.out]; exact Nat.le_refl _), List.take_of_length_le (by rw [HL2.out]; exact Nat.le_refl _)] at this
     simp [this]
    subst hv
    go_wp2_with fail
    go_ret
    exact ⟨rfl, G1.out.trans HG.out⟩
 ·have d0 : ((len : Int) != (len2 : Int)) = true := by simp; omega
  have hv : res = false := by
   rw [HRES.out]
   simp only [decide_eq_false_iff_not]
   intro h
   have h1 := HL.out
   rw [h, HL2.out] at h1
   exact hne h1.symm
  subst hv
  clear hne
  go_enter Tryz.func14, Tryz.ntmps14
  exact tZ43
end Go.Proofs.OGW
