import Derived.Test.YtmejcmollpbcfaaGreatP14
import Derived.Test.YtmejcmollpbcfaaGreatP23
import Derived.Test.YtmejcmollpbcfaaGreatP30
set_option linter.all false
namespace Go.Proofs.OGW
open Go.RowKit Go.Sort OG Go.Shelf Go.PlainAid
attribute [local go_sem] sA fv sB sG sC Nat.zero_add
attribute [local go_sem ↓] ld66 ld51 st66 st51
theorem SgAt.dr {W : World} {d b o : Nat} {s : Sg} (h : SgAt { W with drawn := d } b o s) : SgAt W b o s :=
 ⟨h.c0, h.c1, h.c2, h.c3, by obtain ⟨A, c, h1, h2, h3⟩ := h.c4; exact ⟨A, c, h1, h2, Row.mono h3 fun _ _ _ k => ⟨k.c0, k.c1, k.c2, k.c3⟩⟩⟩
theorem SgRow.below {w W : World} {A : Option Addr} {xs : List Sg} (h : SgRow w A xs) (hb : Below w.heap.size w W) : SgRow W A xs := Row.mono (h.gr (gr_of_below hb)) fun _ _ _ => SgAt.dr
theorem LayEnv.below {w W : World} {most : Int} {SA : Option Addr} {sn sc : Nat} {A : Option Addr} {len c : Nat} {l : List Sg} {ns : List Nd} (h : LayEnv w most SA sn sc A len c l ns) (hb : Below w.heap.size w W) : LayEnv W most SA sn sc A len c l ns :=
 ⟨h.sg.below hb, h.sl, h.sb, h.nd.below hb, h.nl, h.nb⟩
theorem endN_at {ns : List Nd} {i : Nat} {n : Nd} (h : ns[i]? = some n) : endN ns i = i + 1 + skipN n.depth (ns.drop (i + 1)) := by unfold endN; rw [h]
theorem skipN_in (d : Int) : ∀ (l : List Nd) (j : Nat), j < skipN d l → ∃ n, l[j]? = some n ∧ d < n.depth
 | [], j, h => by simp [skipN] at h
 | n :: r, j, h => by
   by_cases hd : d < n.depth
   ·rw [skipN_yes hd] at h
    cases j with
    | zero => exact ⟨n, rfl, hd⟩
    | succ j => exact skipN_in d r j (by omega)
   ·rw [skipN_no (by omega)] at h; omega
theorem skipN_deep (d e : Int) (hde : d ≤ e) : ∀ (l : List Nd) (j : Nat), skipN e (l.drop j) ≤ skipN d l - j ∨ skipN d l < j
 | [], j => by left; simp [skipN]
 | n :: r, 0 => by
   left
   rw [List.drop_zero]
   by_cases hd : d < n.depth
   ·rw [skipN_yes hd]
    by_cases he : e < n.depth
    ·rw [skipN_yes he]
     have := skipN_deep d e hde r 0
     rw [List.drop_zero] at this
     omega
    ·rw [skipN_no (by omega)]; omega
   ·rw [skipN_no (by omega), skipN_no (by omega)]; omega
 | n :: r, j + 1 => by
   rw [List.drop_succ_cons]
   by_cases hd : d < n.depth
   ·rw [skipN_yes hd]
    have := skipN_deep d e hde r j
    omega
   ·rw [skipN_no (by omega)]; right; omega
theorem endN_in {ns : List Nd} {i k : Nat} (hi : i < ns.length) (hik : i < k) (hk : k < endN ns i) : endN ns k ≤ endN ns i := by
 have hn := gE hi
 rw [endN_at hn] at hk ⊢
 obtain ⟨m, hm, hd⟩ := skipN_in ns[i].depth (ns.drop (i + 1)) (k - (i + 1)) (by omega)
 rw [List.getElem?_drop] at hm
 rw [show i + 1 + (k - (i + 1)) = k by omega] at hm
 rw [endN_at hm]
 have := skipN_deep ns[i].depth m.depth (by omega) (ns.drop (i + 1)) (k - (i + 1) + 1)
 rw [List.drop_drop, show i + 1 + (k - (i + 1) + 1) = k + 1 by omega] at this
 omega
def chainN (ns : List Nd) (e : Nat) : Nat → Nat → List Nat
 | 0, _ => []
 | f + 1, k => if k < e then k :: chainN ns e f (endN ns k) else []
theorem chainN_ok {ns : List Nd} {e : Nat} (h : ∀ k, k < e → endN ns k ≤ e) : ∀ (f k : Nat), e - k ≤ f → k ≤ e → IChain ns e k (chainN ns e f k)
 | 0, k, hf, hk => by show k = e; omega
 | f + 1, k, hf, hk => by
   unfold chainN
   by_cases hlt : k < e
   ·rw [if_pos hlt]
    have := endN_gt ns k
    exact ⟨rfl, hlt, chainN_ok h f _ (by omega) (h k hlt)⟩
   ·rw [if_neg hlt]; show k = e; omega
theorem chainN_from {ns : List Nd} {i : Nat} (hi : i < ns.length) : ∀ (f k : Nat), i < k → endN ns i - k ≤ f → k ≤ endN ns i → IChain ns (endN ns i) k (chainN ns (endN ns i) f k)
 | 0, k, _, hf, hk => by show k = _; omega
 | f + 1, k, hik, hf, hk => by
   unfold chainN
   by_cases hlt : k < endN ns i
   ·rw [if_pos hlt]
    have := endN_gt ns k
    exact ⟨rfl, hlt, chainN_from hi f _ (by omega) (by omega) (endN_in hi hik hlt)⟩
   ·rw [if_neg hlt]; show k = _; omega
theorem IChain.one {ns : List Nd} {e : Nat} : ∀ {xs ys : List Nat} {k : Nat}, IChain ns e k xs → IChain ns e k ys → xs = ys
 | [], [], _, _, _ => rfl
 | [], y :: ys, k, h, h' => by have := h'.2.1; have h1 : k = e := h; omega
 | x :: xs, [], k, h, h' => by have := h.2.1; have h1 : k = e := h'; omega
 | x :: xs, y :: ys, k, h, h' => by rw [h.1, h'.1, IChain.one h.2.2 h'.2.2]
def kidsN (ns : List Nd) (i : Nat) : List Nat := chainN ns (endN ns i) ns.length (i + 1)
theorem kidsN_ok {ns : List Nd} {i : Nat} (hi : i < ns.length) : IChain ns (endN ns i) (i + 1) (kidsN ns i) :=
 chainN_from hi _ _ (Nat.lt_succ_self _) (by have := endN_le (ns := ns) (i := i) hi; omega) (by have := endN_gt ns i; omega)
def firstE (f : Nat → Int) : Nat → Nat → Int
 | 0, _ => 0
 | m + 1, k => if f k = 0 then firstE f m (k + 1) else f k
theorem firstE_step {f : Nat → Int} {m k : Nat} (h : k < m) : firstE f (m - k) k = if f k = 0 then firstE f (m - (k + 1)) (k + 1) else f k := by
 rw [show m - k = m - (k + 1) + 1 by omega]; rfl
theorem firstE_zero {f : Nat → Int} : ∀ (m k : Nat), firstE f m k = 0 ↔ ∀ j, k ≤ j → j < k + m → f j = 0
 | 0, k => ⟨fun _ j h1 h2 => by omega, fun _ => rfl⟩
 | m + 1, k => by
   unfold firstE
   by_cases h : f k = 0
   ·rw [if_pos h, firstE_zero m (k + 1)]
    constructor
    ·intro hh j h1 h2
     rcases Nat.lt_or_ge k j with h3 | h3
     ·exact hh j h3 (by omega)
     ·rw [show j = k by omega]; exact h
    ·intro hh j h1 h2; exact hh j (by omega) (by omega)
   ·rw [if_neg h]
    exact ⟨fun hh => absurd hh h, fun hh => absurd (hh k (Nat.le_refl _) (by omega)) h⟩
def ownE (l : List Sg) (ns : List Nd) (i : Nat) : Int := match ns[i]? with | some n => nodeE l (topN ns i) n | none => 0
def parK (ns : List Nd) (i : Nat) (n : Nd) : Int := if 0 < n.depth then lastK ns i (n.depth - 1) else 0
def famAt (ns : List Nd) (i : Nat) : Bool := match ns[i]? with | some n => famP n.lf.kind n.depth ((kidsN ns i).map (kAt ns)) (parK ns i n) | none => true
def checkP (most : Int) (l : List Sg) (ns : List Nd) : Int :=
 if listE most l ≠ 0 then listE most l else if 200 < ns.length then 2 else if firstE (ownE l ns) ns.length 0 ≠ 0 then firstE (ownE l ns) ns.length 0
 else if (List.range ns.length).all (famAt ns) then 0 else 20
theorem nodeE_depth {l : List Sg} {t : Int} {n : Nd} (h : nodeE l t n = 0) : 0 ≤ n.depth ∧ n.depth ≤ 4 := by
 unfold nodeE at h
 split at h
 ·cases h
 split at h
 ·cases h
 omega
structure PathC (W : World) (pb : Nat) (v0 v1 v2 v3 v4 : Int) : Prop where
 p0 : W.cell? ⟨pb, 0, none⟩ = some (.int .i64 v0)
 p1 : W.cell? ⟨pb, 1, none⟩ = some (.int .i64 v1)
 p2 : W.cell? ⟨pb, 2, none⟩ = some (.int .i64 v2)
 p3 : W.cell? ⟨pb, 3, none⟩ = some (.int .i64 v3)
 p4 : W.cell? ⟨pb, 4, none⟩ = some (.int .i64 v4)
 f0 : W.frozen? ⟨pb, 0, none⟩ = false
 f1 : W.frozen? ⟨pb, 1, none⟩ = false
 f2 : W.frozen? ⟨pb, 2, none⟩ = false
 f3 : W.frozen? ⟨pb, 3, none⟩ = false
 f4 : W.frozen? ⟨pb, 4, none⟩ = false
theorem PathC.below {W W' : World} {pb : Nat} {v0 v1 v2 v3 v4 : Int} (h : PathC W pb v0 v1 v2 v3 v4) (hb : Below W.heap.size W W') : PathC W' pb v0 v1 v2 v3 v4 :=
 have hp := lcc W _ h.p0
 ⟨(hb.cell (p := ⟨pb, 0, none⟩) hp).trans h.p0, (hb.cell (p := ⟨pb, 1, none⟩) hp).trans h.p1, (hb.cell (p := ⟨pb, 2, none⟩) hp).trans h.p2, (hb.cell (p := ⟨pb, 3, none⟩) hp).trans h.p3, (hb.cell (p := ⟨pb, 4, none⟩) hp).trans h.p4,
  (hb.frozen (p := ⟨pb, 0, none⟩) hp).trans h.f0, (hb.frozen (p := ⟨pb, 1, none⟩) hp).trans h.f1, (hb.frozen (p := ⟨pb, 2, none⟩) hp).trans h.f2, (hb.frozen (p := ⟨pb, 3, none⟩) hp).trans h.f3, (hb.frozen (p := ⟨pb, 4, none⟩) hp).trans h.f4⟩
theorem PathC.alloc {W : World} {pb : Nat} {v0 v1 v2 v3 v4 : Int} (h : PathC W pb v0 v1 v2 v3 v4) (o : Obj) : PathC (W.alloc o) pb v0 v1 v2 v3 v4 := h.below ((Below.refl _ _).alloc (Nat.le_refl _) _)
theorem PathC.set {W : World} {pb : Nat} {v0 v1 v2 v3 v4 : Int} (h : PathC W pb v0 v1 v2 v3 v4) (i : Nat) (u : Int) : PathC (W.setCell ⟨pb, i, none⟩ (.int .i64 u)) pb (if i = 0 then u else v0) (if i = 1 then u else v1) (if i = 2 then u else v2) (if i = 3 then u else v3) (if i = 4 then u else v4) := by
 have o : ∀ {j : Nat} {v : Int}, W.cell? ⟨pb, j, none⟩ = some (.int .i64 v) → (W.setCell ⟨pb, i, none⟩ (.int .i64 u)).cell? ⟨pb, j, none⟩ = some (.int .i64 (if i = j then u else v)) := fun {j v} hc => by
  by_cases hij : i = j
  ·subst hij; rw [if_pos rfl]; exact World.cell?_setCell_same' _ _ _ (by rw [hc]; rfl)
  ·rw [if_neg hij]; exact (World.cell?_setCell_other _ _ _ _ (by simp; try omega)).trans hc
 exact ⟨o h.p0, o h.p1, o h.p2, o h.p3, o h.p4, by rw [World.frozen?_setCell]; exact h.f0, by rw [World.frozen?_setCell]; exact h.f1, by rw [World.frozen?_setCell]; exact h.f2, by rw [World.frozen?_setCell]; exact h.f3, by rw [World.frozen?_setCell]; exact h.f4⟩
theorem lastK_succ {ns : List Nd} {j : Nat} {n : Nd} (h : ns[j]? = some n) (e : Int) : lastK ns (j + 1) e = if n.depth = e then n.lf.kind else lastK ns j e := by
 show (match ns[j]? with | some n => _ | none => _) = _
 rw [h]
theorem tZ20 {P : Prop} (h : P := by
 have h1 : firstE (ownE l ns) len 0 = oe := by
  have key : ∀ m j, j + m = k → (∀ i, j ≤ i → i < k → ownE l ns i = 0) → firstE (ownE l ns) (len - j) j = oe := by
   intro m
   induction m with
   | zero => intro j hj _; rw [show j = k by omega, firstE_step hlt, ← HOE.out, if_neg hz]
   | succ m ih => intro j hj hh; rw [firstE_step (by omega), if_pos (hh j (Nat.le_refl _) (by omega))]; exact ih (j + 1) (by omega) (fun i h1 h2 => hh i (by omega) h2)
  exact key k 0 (by omega) (fun i _ h => HN.out i h)
 have := HV.out
 rw [h1, if_pos hz] at this
 exact this) : P := h
theorem tZ28 {P : Prop} (h : P := by
 exact ⟨by rw [HVE.out, all_bad (p := famAt ns) hjk HFB.out.symm]; rfl, HB2.out.trans (HGW.out.mono HB2.out.size)⟩) : P := h
theorem tZ35 {P : Prop} (h : P := by
 exact (HGW.out.cell (p := ⟨w.heap.size + 1, 0, none⟩) (by go_simp; omega)).trans (by go_simp)) : P := h
theorem tZ52 {P : Prop} (h : P := by
 go_roundw
 case rel =>
  refine ⟨k + 1, by go_num, by omega, HG.out.trans HGW.out, fun j hj => ?_⟩
  rcases Nat.lt_or_ge j k with h | h
  ·exact HN.out j h
  ·rw [show j = k by omega]; exact HOE.out.symm
 case measure => simp [intOf]; omega) : P := h
set_option maxRecDepth 100000 in
set_option maxHeartbeats 8000000 in
theorem textCheck_call (most : Int) (SA : Option Addr) (sn sc : Nat) (A : Option Addr) (len c : Nat) (l : List Sg) (ns : List Nd) (w : World) (hE : LayEnv w most SA sn sc A len c l ns) :
 Calls Tryz.prog 47 #[lv most SA sn sc, .agg #[.slice A len c]] w fun e w' => e = .returned (.int .i64 (checkP most l ns)) ∧ Below w.heap.size w w' := by
 have hlen := hE.nb
 have hsn := hE.sb
 have HL := hiD hE.nl
 have hsc : ∀ m os, Calls Tryz.prog 34 #[lv most SA sn sc] (Sort.grow (((w.alloc (.cells #[.int .i64 most, .slice SA sn sc] 24)).alloc (.cells #[.slice A len c] 33)).drewN m) os) fun e w' => e = .returned (.int .i64 (listE most l)) ∧ Gr (Sort.grow (((w.alloc (.cells #[.int .i64 most, .slice SA sn sc] 24)).alloc (.cells #[.slice A len c] 33)).drewN m) os) w' := fun m os =>
  signsCheck_call most SA sc l _ (hE.sg.gr ((((Gr.refl w).alloc _).alloc _).trans (Gr.of_eq m os))) sn hE.sl (by omega)
 have HSC := hiD (show Calls Tryz.prog 34 #[lv most SA sn sc] ((w.alloc (.cells #[.int .i64 most, .slice SA sn sc] 24)).alloc (.cells #[.slice A len c] 33)) fun e w' => e = .returned (.int .i64 (listE most l)) ∧ Gr ((w.alloc (.cells #[.int .i64 most, .slice SA sn sc] 24)).alloc (.cells #[.slice A len c] 33)) w' from
  signsCheck_call most SA sc l _ (hE.sg.gr (((Gr.refl w).alloc _).alloc _)) sn hE.sl (by omega))
 have HE := hiD hE
 clear hE hsc
 obtain ⟨ce, hce⟩ : ∃ ce, ce = checkP most l ns := ⟨_, rfl⟩
 rw [← hce]
 have hce2 : ce = if listE most l ≠ 0 then listE most l else if 200 < len then 2 else if firstE (ownE l ns) len 0 ≠ 0 then firstE (ownE l ns) len 0
  else if (List.range len).all (famAt ns) then 0 else 20 := by rw [hce, checkP, HL.out]
 have HCE := hiD hce2
 clear hce hce2
 obtain ⟨le, hle⟩ : ∃ le, le = listE most l := ⟨_, rfl⟩
 rw [← hle] at HSC HCE
 clear hle
 by_cases h0 : le = 0
 ·subst h0
  by_cases h1 : 200 < len
  ·have hv : ce = 2 := by have := HCE.out; simpa [h1] using this
   have d1 : decide (200 < (len : Int)) = true := by simp; omega
   rw [hv]
   clear hv h1
   go_enter Tryz.func47, Tryz.ntmps47
   go_wp2_with (go_at_call 34; refine HSC.out.mono ?_; rintro e w' ⟨rfl, hgw⟩; have HG := hiD hgw; have m0 := hgw.cell (p := ⟨w.heap.size + 1, 0, none⟩) (v := .slice A len c) (by go_simp); clear hgw)
   go_ret
   exact ⟨rfl, ((((Gr.refl w).alloc _).alloc _).trans HG.out).b⟩
  have d1 : decide (200 < (len : Int)) = false := by simp; omega
  have hl2 : len ≤ 200 := by omega
  have hv : ce = if firstE (ownE l ns) len 0 ≠ 0 then firstE (ownE l ns) len 0 else if (List.range len).all (famAt ns) then 0 else 20 := by have := HCE.out; simpa [h1] using this
  have HV := hiD hv
  clear HCE hv h1
  go_enter Tryz.func47, Tryz.ntmps47
  go_upto_region 6 with (go_at_call 34; refine HSC.out.mono ?_; rintro e w' ⟨rfl, hgw⟩; have HG := hiD hgw; have m0 := hgw.cell (p := ⟨w.heap.size + 1, 0, none⟩) (v := .slice A len c) (by go_simp); have m1 := hgw.cell (p := ⟨w.heap.size, 0, none⟩) (v := .int .i64 most) (by go_simp); have m2 := hgw.cell (p := ⟨w.heap.size, 1, none⟩) (v := .slice SA sn sc) (by go_simp); clear hgw)
  have G1 := hiD ((((Gr.refl w).alloc _).alloc _).trans HG.out)
  clear HG HSC d1
  obtain ⟨W1, hW1⟩ : ∃ W1, W1 = w' := ⟨_, rfl⟩
  subst hW1
  have M0 := hiD m0
  have M1 := hiD m1
  have M2 := hiD m2
  have s0 : w.heap.size + 1 < W1.heap.size := lcc W1 _ m0
  clear m1 m2
  go_wp2
  go_loopw [24] (fun i wr => ∃ k : Nat, i = .int .i64 k ∧ k ≤ len ∧ Gr W1 wr ∧ Hid (∀ j, j < k → ownE l ns j = 0)) (fun i _ => len - (intOf i).toNat)
  case atStart => exact ⟨0, rfl, Nat.zero_le _, Gr.refl _, fun j hj => by omega⟩
  case round =>
   obtain ⟨k, rfl, hk, hg, HN⟩ := hrel
   have HG := hiD hg
   have c0 := hg.cell M0.out
   have c1 := hg.cell M1.out
   have c2 := hg.cell M2.out
   have nn := lcc wr _ c0
   clear hg m0
   by_cases hlt : k < len
   ·obtain ⟨n, hn⟩ : ∃ n, ns[k]? = some n := ⟨_, gE (by rw [HL.out]; exact hlt)⟩
    have hd : decide ((k : Int) < (len : Int)) = true := by simp; omega
    have hfc := first_call most SA sn sc A len c l ns k n wr (HE.out.gr (G1.out.trans HG.out)) hn (fun j p hj hp => by
     have h1 := HN.out j (by omega)
     unfold ownE at h1
     rw [hp] at h1
     exact nodeE_depth h1)
    have hoe : ownE l ns k = nodeE l (topN ns k) n := by unfold ownE; rw [hn]
    rw [← hoe] at hfc
    have HFC := hiD hfc
    obtain ⟨oe, hoe2⟩ : ∃ oe, oe = ownE l ns k := ⟨_, rfl⟩
    rw [← hoe2] at HFC
    have HOE := hiD hoe2
    clear hfc hoe hoe2 hn
    by_cases hz : oe = 0
    ·subst hz
     go_wp2_with (go_at_call 102; refine HFC.out.mono ?_; rintro e w' ⟨rfl, hgw⟩; have HGW := hiD hgw; clear hgw)
     exact tZ52
    ·have hne : (oe != 0) = true := by simpa using hz
     have hv : ce = oe := by
      exact tZ20
     have HCE2 := hiD hv
     clear hv hz
     go_wp2_with (go_at_call 102; refine HFC.out.mono ?_; rintro e w' ⟨rfl, hgw⟩; have HGW := hiD hgw; clear hgw)
     go_ret
     exact ⟨by rw [HCE2.out]; rfl, (G1.out.trans (HG.out.trans HGW.out)).b⟩
   ·obtain rfl : k = len := by omega
    have hd : decide ((k : Int) < (k : Int)) = false := by simp
    have hv : ce = if (List.range k).all (famAt ns) then 0 else 20 := by
     have h1 : firstE (ownE l ns) k 0 = 0 := (firstE_zero k 0).2 fun j _ hj => HN.out j (by omega)
     have := HV.out
     rw [h1] at this
     simpa using this
    have HVE := hiD hv
    clear hv HV
    go_upto_region 15 with fail
    have hb1 : Below w.heap.size w (wr.alloc (.cells #[.int .i64 0, .int .i64 0, .int .i64 0, .int .i64 0, .int .i64 0] 155)) := (G1.out.trans (HG.out.trans ((Gr.refl wr).alloc _))).b
    have hpc : PathC (wr.alloc (.cells #[.int .i64 0, .int .i64 0, .int .i64 0, .int .i64 0, .int .i64 0] 155)) wr.heap.size 0 0 0 0 0 := ⟨by go_simp, by go_simp, by go_simp, by go_simp, by go_simp, by go_simp, by go_simp, by go_simp, by go_simp, by go_simp⟩
    have hc0 : (wr.alloc (.cells #[.int .i64 0, .int .i64 0, .int .i64 0, .int .i64 0, .int .i64 0] 155)).cell? ⟨w.heap.size + 1, 0, none⟩ = some (.slice A k c) := by go_simp
    obtain ⟨pb, hpb⟩ : ∃ pb, pb = wr.heap.size := ⟨_, rfl⟩
    rw [← hpb] at hpc ⊢
    have hpb2 : w.heap.size ≤ pb := by omega
    have hpb3 : w.heap.size + 1 < pb := by omega
    generalize wr.alloc (.cells #[.int .i64 0, .int .i64 0, .int .i64 0, .int .i64 0, .int .i64 0] 155) = W2 at hb1 hpc hc0 ⊢
    have HB1 := hiD hb1
    have HPC1 := hiD hpc
    have HC1 := hiD hc0
    have HNN := hiD HN.out
    clear hb1 hpc hc0 c0 c1 c2 hpb nn
    obtain ⟨wo, rfl⟩ : ∃ wo, wo = wr := ⟨wr, rfl⟩
    go_loopw [38] (fun i wr => ∃ (j : Nat) (v0 v1 v2 v3 v4 : Int), i = .int .i64 j ∧ j ≤ k ∧ Hid (Below w.heap.size w wr) ∧ Hid (wr.cell? ⟨w.heap.size + 1, 0, none⟩ = some (.slice A k c)) ∧ Hid (PathC wr pb v0 v1 v2 v3 v4) ∧
     Hid (v0 = lastK ns j 0) ∧ Hid (v1 = lastK ns j 1) ∧ Hid (v2 = lastK ns j 2) ∧ Hid (v3 = lastK ns j 3) ∧ Hid (v4 = lastK ns j 4) ∧ Hid (∀ m, m < j → famAt ns m = true)) (fun i _ => k - (intOf i).toNat)
    case atStart => exact ⟨0, 0, 0, 0, 0, 0, rfl, Nat.zero_le _, HB1.out, HC1.out, HPC1.out, rfl, rfl, rfl, rfl, rfl, fun m hm => by omega⟩
    case round =>
     obtain ⟨j, v0, v1, v2, v3, v4, rfl, hj, HB, HC0, HPC, HV0, HV1, HV2, HV3, HV4, HN2⟩ := hrel
     by_cases hjk : j < k
     ·obtain ⟨n, hn⟩ : ∃ n, ns[j]? = some n := ⟨_, gE (by rw [HL.out]; exact hjk)⟩
      obtain ⟨blk, off, rfl, hat⟩ := (HE.out.nd.below HB.out).2 j n hn
      have hblk : blk < wr.heap.size := lcc wr _ hat.c0
      have hdp : 0 ≤ n.depth ∧ n.depth ≤ 4 := by
       have h1 := HNN.out j hjk
       unfold ownE at h1
       rw [hn] at h1
       exact nodeE_depth h1
      obtain ⟨⟨kd, sg, tn, mr, sta, mn, mx⟩, dd⟩ := n
      simp only [NdAt, nv] at hat hdp
      have HNJ := hiD hn
      have hq0 := HPC.out.p0
      have hq1 := HPC.out.p1
      have hq2 := HPC.out.p2
      have hq3 := HPC.out.p3
      have hq4 := HPC.out.p4
      have hf0 := HPC.out.f0
      have hf1 := HPC.out.f1
      have hf2 := HPC.out.f2
      have hf3 := HPC.out.f3
      have hf4 := HPC.out.f4
      have hc0 := HC0.out
      have npb := lcc wr _ hq0
      have ncb := lcc wr _ hc0
      have tj : ((j : Nat) : Int).toNat = j := by omega
      have hd : decide ((j : Int) < (k : Int)) = true := by simp; omega
      clear hn
      by_cases hd0 : dd = 0
      ·subst hd0
       have hfam : famAt ns j = famP kd 0 ((kidsN ns j).map (kAt ns)) 0 := by
        unfold famAt
        rw [HNJ.out]
        simp only [parK]
        rw [if_neg (by omega)]
       have HFA := hiD hfam
       have hfc := fun W (hb : Below w.heap.size w W) => family_call (some ⟨blk, off, none⟩) k c ns W (HE.out.nd.below hb) HL.out hlen j _ HNJ.out 0 (kidsN ns j) (kidsN_ok (by rw [HL.out]; exact hjk))
       simp only at hfc
       rw [← hfam] at hfc
       obtain ⟨fb, hfb⟩ : ∃ fb, fb = famAt ns j := ⟨_, rfl⟩
       rw [← hfb] at hfc
       have HFB := hiD hfb
       have HFC := hiD hfc
       clear hfam hfb hfc
       have hb2 : Below w.heap.size w ((wr.setCell ⟨pb, 0, none⟩ (.int .i64 kd)).alloc (.cells #[.int .i64 kd, .int .i64 0, .int .i64 sg, .int .i64 tn, .bool mr, .int .i64 sta, .int .i64 mn, .int .i64 mx] 51)) :=
        (HB.out.setCell (p := ⟨pb, 0, none⟩) hpb2 _).alloc (HB.out.setCell (p := ⟨pb, 0, none⟩) hpb2 _).size _
       have HB2 := hiD hb2
       have hp2 := (HPC.out.set 0 kd).alloc (.cells #[.int .i64 kd, .int .i64 0, .int .i64 sg, .int .i64 tn, .bool mr, .int .i64 sta, .int .i64 mn, .int .i64 mx] 51)
       have HP2 := hiD hp2
       clear hb2 hp2
       cases fb
       ·go_wp2_with (go_at_call 103; refine (HFC.out _ HB2.out).mono ?_; rintro e w' ⟨rfl, hgw⟩; have HGW := hiD hgw; clear hgw)
        go_ret
        exact tZ28
       ·go_wp2_with (go_at_call 103; refine (HFC.out _ HB2.out).mono ?_; rintro e w' ⟨rfl, hgw⟩; have HGW := hiD hgw; clear hgw)
        go_roundw
        case rel =>
         have hq := HP2.out.below HGW.out
         simp only [reduceIte, Nat.reduceEqDiff] at hq
         refine ⟨j + 1, _, _, _, _, _, by go_num, by omega, HB2.out.trans (HGW.out.mono HB2.out.size), ?_, hq, (by show _ = _; rw [lastK_succ HNJ.out]; simp), (by show _ = _; rw [lastK_succ HNJ.out]; simp; exact HV1.out), (by show _ = _; rw [lastK_succ HNJ.out]; simp; exact HV2.out), (by show _ = _; rw [lastK_succ HNJ.out]; simp; exact HV3.out), (by show _ = _; rw [lastK_succ HNJ.out]; simp; exact HV4.out), all_next (p := famAt ns) HN2.out HFB.out.symm⟩
         exact tZ35
        case measure => simp [intOf]; omega
      by_cases hd1 : dd = 1
      ·subst hd1
       have hfam : famAt ns j = famP kd 1 ((kidsN ns j).map (kAt ns)) v0 := by
        unfold famAt
        rw [HNJ.out]
        simp only [parK]
        rw [if_pos (by omega), show ((1 : Int) - 1) = 0 from rfl, ← HV0.out]
       have HFA := hiD hfam
       have hfc := fun W (hb : Below w.heap.size w W) => family_call (some ⟨blk, off, none⟩) k c ns W (HE.out.nd.below hb) HL.out hlen j _ HNJ.out v0 (kidsN ns j) (kidsN_ok (by rw [HL.out]; exact hjk))
       simp only at hfc
       rw [← hfam] at hfc
       obtain ⟨fb, hfb⟩ : ∃ fb, fb = famAt ns j := ⟨_, rfl⟩
       rw [← hfb] at hfc
       have HFB := hiD hfb
       have HFC := hiD hfc
       clear hfam hfb hfc
       have hb2 : Below w.heap.size w ((wr.setCell ⟨pb, 1, none⟩ (.int .i64 kd)).alloc (.cells #[.int .i64 kd, .int .i64 1, .int .i64 sg, .int .i64 tn, .bool mr, .int .i64 sta, .int .i64 mn, .int .i64 mx] 51)) :=
        (HB.out.setCell (p := ⟨pb, 1, none⟩) hpb2 _).alloc (HB.out.setCell (p := ⟨pb, 1, none⟩) hpb2 _).size _
       have HB2 := hiD hb2
       have hp2 := (HPC.out.set 1 kd).alloc (.cells #[.int .i64 kd, .int .i64 1, .int .i64 sg, .int .i64 tn, .bool mr, .int .i64 sta, .int .i64 mn, .int .i64 mx] 51)
       have HP2 := hiD hp2
       clear hb2 hp2
       cases fb
       ·go_wp2_with (go_at_call 103; refine (HFC.out _ HB2.out).mono ?_; rintro e w' ⟨rfl, hgw⟩; have HGW := hiD hgw; clear hgw)
        go_ret
        exact tZ28
       ·go_wp2_with (go_at_call 103; refine (HFC.out _ HB2.out).mono ?_; rintro e w' ⟨rfl, hgw⟩; have HGW := hiD hgw; clear hgw)
        go_roundw
        case rel =>
         have hq := HP2.out.below HGW.out
         simp only [reduceIte, Nat.reduceEqDiff] at hq
         refine ⟨j + 1, _, _, _, _, _, by go_num, by omega, HB2.out.trans (HGW.out.mono HB2.out.size), ?_, hq, (by show _ = _; rw [lastK_succ HNJ.out]; simp; exact HV0.out), (by show _ = _; rw [lastK_succ HNJ.out]; simp), (by show _ = _; rw [lastK_succ HNJ.out]; simp; exact HV2.out), (by show _ = _; rw [lastK_succ HNJ.out]; simp; exact HV3.out), (by show _ = _; rw [lastK_succ HNJ.out]; simp; exact HV4.out), all_next (p := famAt ns) HN2.out HFB.out.symm⟩
         exact tZ35
        case measure => simp [intOf]; omega
      by_cases hd2 : dd = 2
      ·subst hd2
       have hfam : famAt ns j = famP kd 2 ((kidsN ns j).map (kAt ns)) v1 := by
        unfold famAt
        rw [HNJ.out]
        simp only [parK]
        rw [if_pos (by omega), show ((2 : Int) - 1) = 1 from rfl, ← HV1.out]
       have HFA := hiD hfam
       have hfc := fun W (hb : Below w.heap.size w W) => family_call (some ⟨blk, off, none⟩) k c ns W (HE.out.nd.below hb) HL.out hlen j _ HNJ.out v1 (kidsN ns j) (kidsN_ok (by rw [HL.out]; exact hjk))
       simp only at hfc
       rw [← hfam] at hfc
       obtain ⟨fb, hfb⟩ : ∃ fb, fb = famAt ns j := ⟨_, rfl⟩
       rw [← hfb] at hfc
       have HFB := hiD hfb
       have HFC := hiD hfc
       clear hfam hfb hfc
       have hb2 : Below w.heap.size w ((wr.setCell ⟨pb, 2, none⟩ (.int .i64 kd)).alloc (.cells #[.int .i64 kd, .int .i64 2, .int .i64 sg, .int .i64 tn, .bool mr, .int .i64 sta, .int .i64 mn, .int .i64 mx] 51)) :=
        (HB.out.setCell (p := ⟨pb, 2, none⟩) hpb2 _).alloc (HB.out.setCell (p := ⟨pb, 2, none⟩) hpb2 _).size _
       have HB2 := hiD hb2
       have hp2 := (HPC.out.set 2 kd).alloc (.cells #[.int .i64 kd, .int .i64 2, .int .i64 sg, .int .i64 tn, .bool mr, .int .i64 sta, .int .i64 mn, .int .i64 mx] 51)
       have HP2 := hiD hp2
       clear hb2 hp2
       cases fb
       ·go_wp2_with (go_at_call 103; refine (HFC.out _ HB2.out).mono ?_; rintro e w' ⟨rfl, hgw⟩; have HGW := hiD hgw; clear hgw)
        go_ret
        exact tZ28
       ·go_wp2_with (go_at_call 103; refine (HFC.out _ HB2.out).mono ?_; rintro e w' ⟨rfl, hgw⟩; have HGW := hiD hgw; clear hgw)
        go_roundw
        case rel =>
         have hq := HP2.out.below HGW.out
         simp only [reduceIte, Nat.reduceEqDiff] at hq
         refine ⟨j + 1, _, _, _, _, _, by go_num, by omega, HB2.out.trans (HGW.out.mono HB2.out.size), ?_, hq, (by show _ = _; rw [lastK_succ HNJ.out]; simp; exact HV0.out), (by show _ = _; rw [lastK_succ HNJ.out]; simp; exact HV1.out), (by show _ = _; rw [lastK_succ HNJ.out]; simp), (by show _ = _; rw [lastK_succ HNJ.out]; simp; exact HV3.out), (by show _ = _; rw [lastK_succ HNJ.out]; simp; exact HV4.out), all_next (p := famAt ns) HN2.out HFB.out.symm⟩
         exact tZ35
        case measure => simp [intOf]; omega
      by_cases hd3 : dd = 3
      ·subst hd3
       have hfam : famAt ns j = famP kd 3 ((kidsN ns j).map (kAt ns)) v2 := by
        unfold famAt
        rw [HNJ.out]
        simp only [parK]
        rw [if_pos (by omega), show ((3 : Int) - 1) = 2 from rfl, ← HV2.out]
       have HFA := hiD hfam
       have hfc := fun W (hb : Below w.heap.size w W) => family_call (some ⟨blk, off, none⟩) k c ns W (HE.out.nd.below hb) HL.out hlen j _ HNJ.out v2 (kidsN ns j) (kidsN_ok (by rw [HL.out]; exact hjk))
       simp only at hfc
       rw [← hfam] at hfc
       obtain ⟨fb, hfb⟩ : ∃ fb, fb = famAt ns j := ⟨_, rfl⟩
       rw [← hfb] at hfc
       have HFB := hiD hfb
       have HFC := hiD hfc
       clear hfam hfb hfc
       have hb2 : Below w.heap.size w ((wr.setCell ⟨pb, 3, none⟩ (.int .i64 kd)).alloc (.cells #[.int .i64 kd, .int .i64 3, .int .i64 sg, .int .i64 tn, .bool mr, .int .i64 sta, .int .i64 mn, .int .i64 mx] 51)) :=
        (HB.out.setCell (p := ⟨pb, 3, none⟩) hpb2 _).alloc (HB.out.setCell (p := ⟨pb, 3, none⟩) hpb2 _).size _
       have HB2 := hiD hb2
       have hp2 := (HPC.out.set 3 kd).alloc (.cells #[.int .i64 kd, .int .i64 3, .int .i64 sg, .int .i64 tn, .bool mr, .int .i64 sta, .int .i64 mn, .int .i64 mx] 51)
       have HP2 := hiD hp2
       clear hb2 hp2
       cases fb
       ·go_wp2_with (go_at_call 103; refine (HFC.out _ HB2.out).mono ?_; rintro e w' ⟨rfl, hgw⟩; have HGW := hiD hgw; clear hgw)
        go_ret
        exact tZ28
       ·go_wp2_with (go_at_call 103; refine (HFC.out _ HB2.out).mono ?_; rintro e w' ⟨rfl, hgw⟩; have HGW := hiD hgw; clear hgw)
        go_roundw
        case rel =>
         have hq := HP2.out.below HGW.out
         simp only [reduceIte, Nat.reduceEqDiff] at hq
         refine ⟨j + 1, _, _, _, _, _, by go_num, by omega, HB2.out.trans (HGW.out.mono HB2.out.size), ?_, hq, (by show _ = _; rw [lastK_succ HNJ.out]; simp; exact HV0.out), (by show _ = _; rw [lastK_succ HNJ.out]; simp; exact HV1.out), (by show _ = _; rw [lastK_succ HNJ.out]; simp; exact HV2.out), (by show _ = _; rw [lastK_succ HNJ.out]; simp), (by show _ = _; rw [lastK_succ HNJ.out]; simp; exact HV4.out), all_next (p := famAt ns) HN2.out HFB.out.symm⟩
         exact tZ35
        case measure => simp [intOf]; omega
      by_cases hd4 : dd = 4
      ·subst hd4
       have hfam : famAt ns j = famP kd 4 ((kidsN ns j).map (kAt ns)) v3 := by
        unfold famAt
        rw [HNJ.out]
        simp only [parK]
        rw [if_pos (by omega), show ((4 : Int) - 1) = 3 from rfl, ← HV3.out]
       have HFA := hiD hfam
       have hfc := fun W (hb : Below w.heap.size w W) => family_call (some ⟨blk, off, none⟩) k c ns W (HE.out.nd.below hb) HL.out hlen j _ HNJ.out v3 (kidsN ns j) (kidsN_ok (by rw [HL.out]; exact hjk))
       simp only at hfc
       rw [← hfam] at hfc
       obtain ⟨fb, hfb⟩ : ∃ fb, fb = famAt ns j := ⟨_, rfl⟩
       rw [← hfb] at hfc
       have HFB := hiD hfb
       have HFC := hiD hfc
       clear hfam hfb hfc
       have hb2 : Below w.heap.size w ((wr.setCell ⟨pb, 4, none⟩ (.int .i64 kd)).alloc (.cells #[.int .i64 kd, .int .i64 4, .int .i64 sg, .int .i64 tn, .bool mr, .int .i64 sta, .int .i64 mn, .int .i64 mx] 51)) :=
        (HB.out.setCell (p := ⟨pb, 4, none⟩) hpb2 _).alloc (HB.out.setCell (p := ⟨pb, 4, none⟩) hpb2 _).size _
       have HB2 := hiD hb2
       have hp2 := (HPC.out.set 4 kd).alloc (.cells #[.int .i64 kd, .int .i64 4, .int .i64 sg, .int .i64 tn, .bool mr, .int .i64 sta, .int .i64 mn, .int .i64 mx] 51)
       have HP2 := hiD hp2
       clear hb2 hp2
       cases fb
       ·go_wp2_with (go_at_call 103; refine (HFC.out _ HB2.out).mono ?_; rintro e w' ⟨rfl, hgw⟩; have HGW := hiD hgw; clear hgw)
        go_ret
        exact tZ28
       ·go_wp2_with (go_at_call 103; refine (HFC.out _ HB2.out).mono ?_; rintro e w' ⟨rfl, hgw⟩; have HGW := hiD hgw; clear hgw)
        go_roundw
        case rel =>
         have hq := HP2.out.below HGW.out
         simp only [reduceIte, Nat.reduceEqDiff] at hq
         refine ⟨j + 1, _, _, _, _, _, by go_num, by omega, HB2.out.trans (HGW.out.mono HB2.out.size), ?_, hq, (by show _ = _; rw [lastK_succ HNJ.out]; simp; exact HV0.out), (by show _ = _; rw [lastK_succ HNJ.out]; simp; exact HV1.out), (by show _ = _; rw [lastK_succ HNJ.out]; simp; exact HV2.out), (by show _ = _; rw [lastK_succ HNJ.out]; simp; exact HV3.out), (by show _ = _; rw [lastK_succ HNJ.out]; simp), all_next (p := famAt ns) HN2.out HFB.out.symm⟩
         exact tZ35
        case measure => simp [intOf]; omega
      omega
     ·obtain rfl : j = k := by omega
      have hd : decide ((j : Int) < (j : Int)) = false := by simp
      have hall := all_good (p := famAt ns) HN2.out
      have HALL := hiD hall
      clear hall
      go_wp2_with fail
      go_ret
      exact ⟨by rw [HVE.out, HALL.out]; rfl, HB.out⟩
 ·have hv : ce = le := by have := HCE.out; simpa [h0] using this
  have d0 : (le != 0) = true := by simp [h0]
  rw [hv]
  clear hv h0
  go_enter Tryz.func47, Tryz.ntmps47
  go_wp2_with (go_at_call 34; refine HSC.out.mono ?_; rintro e w' ⟨rfl, hgw⟩; have HG := hiD hgw; clear hgw)
  go_ret
  exact ⟨rfl, ((((Gr.refl w).alloc _).alloc _).trans HG.out).b⟩
end Go.Proofs.OGW
