import Derived.Test.YtmejcmollpbcfaaGreatP48
import Derived.Test.YtmejcmollpbcfaaGreatP49
set_option linter.all false
namespace Go.Proofs.OGW
open Go.RowKit Go.Sort OG Go.Shelf
attribute [local go_sem] sA fv sB sG sC Nat.zero_add
attribute [local go_sem ↓] ld66 ld51 st66 st51
def exL : List Sg := [⟨⟨#[65, 49]⟩, 12, 12, false, []⟩, ⟨⟨#[66, 50]⟩, 6, 3, false, []⟩]
def exF (s : Int) : Lf := ⟨1, s, 0, false, 0, 0, 0⟩
def exN : List Nd := [⟨bare 2, 0⟩, ⟨exF 0, 1⟩, ⟨exF 1, 1⟩]
def exG : List Grp := [.tree (.beside [.leaf (exF 0), .leaf (exF 1)])]
theorem ex_list : listE 1 exL = 0 := by kernel_rfl
theorem ex_grps : ∀ g ∈ exG, isPlain g ∧ GrpOk (LeafG exL) g := by
 intro g hg
 simp only [exG, List.mem_singleton] at hg
 subst hg
 have h0 : LeafG exL (exF 0) := ⟨by kernel_rfl, .inl rfl⟩
 have h1 : LeafG exL (exF 1) := ⟨by kernel_rfl, .inl rfl⟩
 refine ⟨trivial, by decide, by decide, ?_, ⟨h0, .inl rfl, by decide⟩, ⟨h1, .inl rfl, by decide⟩, trivial⟩
 intro t ht
 simp only [List.mem_cons, List.not_mem_nil, or_false] at ht
 rcases ht with rfl | rfl <;> rfl
theorem ex_tx : TxOk 1 exL (LeafG exL) exG := txOk_of ex_list (by decide) ex_grps
theorem ex_check : checkP 1 exL exN = 0 := check_grps (gs := exG) ex_list (by decide) (fun g hg => (ex_grps g hg).2)
theorem ex_plain : plainP 0 exN = flatG exG := by kernel_rfl
theorem ex_boxes : ∃ b0 b1 : PB, layP (zOf 1 exL) (decide ((1 : Int) ≤ 2)) 1 4800 exG = [b0, b1] ∧ b1.x.num = 816 ∧ b1.x.den = 23 ∧ b1.y.num = 480 ∧ b1.y.den = 23 := by
 have h : (layP (zOf 1 exL) (decide ((1 : Int) ≤ 2)) 1 4800 exG).length = 2 := by kernel_rfl
 obtain ⟨a, b, e⟩ := list_two h
 have h1 : (layP (zOf 1 exL) (decide ((1 : Int) ≤ 2)) 1 4800 exG).map (fun b => (b.x.num, b.x.den, b.y.num, b.y.den)) = [(0, 1, 264, 23), (816, 23, 480, 23)] := by kernel_rfl
 rw [e] at h1
 simp only [List.map_cons, List.map_nil, List.cons.injEq, Prod.mk.injEq, and_true] at h1
 exact ⟨a, b, e, h1.2.1, h1.2.2.1, h1.2.2.2.1, h1.2.2.2.2⟩
theorem tZ119 {P : Prop} (h : P := by
 exact ⟨by go_simp, by go_simp, by go_simp, by go_simp, none, 0, by go_simp, by decide, by decide, fun j x hx => by simp at hx⟩) : P := h
set_option maxRecDepth 100000 in
set_option maxHeartbeats 4000000 in
theorem works_call (w : World) : Calls Tryz.prog 9 #[] w fun e w' => e = .returned (.bool true) ∧ Bel w w' := by
 go_enter Tryz.func9, Tryz.ntmps9
 go_upto_region 3 with fail
 have hs : SgRow ((((w.alloc (.cells #[.string ⟨#[65, 49]⟩, .int .i64 12, .int .i64 12, .bool false, .slice none 0 0, .string ⟨#[66, 50]⟩, .int .i64 6, .int .i64 3, .bool false, .slice none 0 0] 77)).alloc (.cells #[.int .i64 1, .slice (some ⟨w.heap.size, 0, none⟩) 2 2] 24)).alloc
  (.cells #[.int .i64 2, .int .i64 0, .int .i64 0, .int .i64 0, .bool false, .int .i64 0, .int .i64 0, .int .i64 0, .int .i64 1, .int .i64 1, .int .i64 0, .int .i64 0, .bool false, .int .i64 0, .int .i64 0, .int .i64 0, .int .i64 1, .int .i64 1, .int .i64 1, .int .i64 0, .bool false, .int .i64 0, .int .i64 0, .int .i64 0] 51)).alloc
  (.cells #[.slice (some ⟨w.heap.size + 1 + 1, 0, none⟩) 3 3] 33)) (some ⟨w.heap.size, 0, none⟩) exL := by
  refine ⟨by decide, fun j x hx => ⟨w.heap.size, 0, rfl, ?_⟩⟩
  rcases j with _ | _ | j
  ·simp [exL] at hx
   subst hx
   exact tZ119
  ·simp [exL] at hx
   subst hx
   exact tZ119
  ·simp [exL] at hx
 have hn : NdRow ((((w.alloc (.cells #[.string ⟨#[65, 49]⟩, .int .i64 12, .int .i64 12, .bool false, .slice none 0 0, .string ⟨#[66, 50]⟩, .int .i64 6, .int .i64 3, .bool false, .slice none 0 0] 77)).alloc (.cells #[.int .i64 1, .slice (some ⟨w.heap.size, 0, none⟩) 2 2] 24)).alloc
  (.cells #[.int .i64 2, .int .i64 0, .int .i64 0, .int .i64 0, .bool false, .int .i64 0, .int .i64 0, .int .i64 0, .int .i64 1, .int .i64 1, .int .i64 0, .int .i64 0, .bool false, .int .i64 0, .int .i64 0, .int .i64 0, .int .i64 1, .int .i64 1, .int .i64 1, .int .i64 0, .bool false, .int .i64 0, .int .i64 0, .int .i64 0] 51)).alloc
  (.cells #[.slice (some ⟨w.heap.size + 1 + 1, 0, none⟩) 3 3] 33)) (some ⟨w.heap.size + 1 + 1, 0, none⟩) exN := by
  refine ⟨by decide, fun j x hx => ⟨w.heap.size + 1 + 1, 0, rfl, rowV_of rfl fun i u hu => ?_⟩⟩
  rcases j with _ | _ | _ | j
  ·simp only [exN, List.getElem?_cons_zero, Option.some.injEq] at hx
   subst hx
   rcases i with _ | _ | _ | _ | _ | _ | _ | _ | i <;> simp [bare] at hu <;> subst hu <;> go_simp
  ·simp only [exN, List.getElem?_cons_succ, List.getElem?_cons_zero, Option.some.injEq] at hx
   subst hx
   rcases i with _ | _ | _ | _ | _ | _ | _ | _ | i <;> simp [exF] at hu <;> subst hu <;> go_simp
  ·simp only [exN, List.getElem?_cons_succ, List.getElem?_cons_zero, Option.some.injEq] at hx
   subst hx
   rcases i with _ | _ | _ | _ | _ | _ | _ | _ | i <;> simp [exF] at hu <;> subst hu <;> go_simp
  ·simp [exN] at hx
 have m0 : ((((w.alloc (.cells #[.string ⟨#[65, 49]⟩, .int .i64 12, .int .i64 12, .bool false, .slice none 0 0, .string ⟨#[66, 50]⟩, .int .i64 6, .int .i64 3, .bool false, .slice none 0 0] 77)).alloc (.cells #[.int .i64 1, .slice (some ⟨w.heap.size, 0, none⟩) 2 2] 24)).alloc
  (.cells #[.int .i64 2, .int .i64 0, .int .i64 0, .int .i64 0, .bool false, .int .i64 0, .int .i64 0, .int .i64 0, .int .i64 1, .int .i64 1, .int .i64 0, .int .i64 0, .bool false, .int .i64 0, .int .i64 0, .int .i64 0, .int .i64 1, .int .i64 1, .int .i64 1, .int .i64 0, .bool false, .int .i64 0, .int .i64 0, .int .i64 0] 51)).alloc
  (.cells #[.slice (some ⟨w.heap.size + 1 + 1, 0, none⟩) 3 3] 33)).cell? ⟨w.heap.size + 1, 0, none⟩ = some (.int .i64 1) := by go_simp
 have m1 : ((((w.alloc (.cells #[.string ⟨#[65, 49]⟩, .int .i64 12, .int .i64 12, .bool false, .slice none 0 0, .string ⟨#[66, 50]⟩, .int .i64 6, .int .i64 3, .bool false, .slice none 0 0] 77)).alloc (.cells #[.int .i64 1, .slice (some ⟨w.heap.size, 0, none⟩) 2 2] 24)).alloc
  (.cells #[.int .i64 2, .int .i64 0, .int .i64 0, .int .i64 0, .bool false, .int .i64 0, .int .i64 0, .int .i64 0, .int .i64 1, .int .i64 1, .int .i64 0, .int .i64 0, .bool false, .int .i64 0, .int .i64 0, .int .i64 0, .int .i64 1, .int .i64 1, .int .i64 1, .int .i64 0, .bool false, .int .i64 0, .int .i64 0, .int .i64 0] 51)).alloc
  (.cells #[.slice (some ⟨w.heap.size + 1 + 1, 0, none⟩) 3 3] 33)).cell? ⟨w.heap.size + 1, 1, none⟩ = some (.slice (some ⟨w.heap.size, 0, none⟩) 2 2) := by go_simp
 have m2 : ((((w.alloc (.cells #[.string ⟨#[65, 49]⟩, .int .i64 12, .int .i64 12, .bool false, .slice none 0 0, .string ⟨#[66, 50]⟩, .int .i64 6, .int .i64 3, .bool false, .slice none 0 0] 77)).alloc (.cells #[.int .i64 1, .slice (some ⟨w.heap.size, 0, none⟩) 2 2] 24)).alloc
  (.cells #[.int .i64 2, .int .i64 0, .int .i64 0, .int .i64 0, .bool false, .int .i64 0, .int .i64 0, .int .i64 0, .int .i64 1, .int .i64 1, .int .i64 0, .int .i64 0, .bool false, .int .i64 0, .int .i64 0, .int .i64 0, .int .i64 1, .int .i64 1, .int .i64 1, .int .i64 0, .bool false, .int .i64 0, .int .i64 0, .int .i64 0] 51)).alloc
  (.cells #[.slice (some ⟨w.heap.size + 1 + 1, 0, none⟩) 3 3] 33)).cell? ⟨w.heap.size + 1 + 1 + 1, 0, none⟩ = some (.slice (some ⟨w.heap.size + 1 + 1, 0, none⟩) 3 3) := by go_simp
 have g2 : Bel w ((((w.alloc (.cells #[.string ⟨#[65, 49]⟩, .int .i64 12, .int .i64 12, .bool false, .slice none 0 0, .string ⟨#[66, 50]⟩, .int .i64 6, .int .i64 3, .bool false, .slice none 0 0] 77)).alloc (.cells #[.int .i64 1, .slice (some ⟨w.heap.size, 0, none⟩) 2 2] 24)).alloc
  (.cells #[.int .i64 2, .int .i64 0, .int .i64 0, .int .i64 0, .bool false, .int .i64 0, .int .i64 0, .int .i64 0, .int .i64 1, .int .i64 1, .int .i64 0, .int .i64 0, .bool false, .int .i64 0, .int .i64 0, .int .i64 0, .int .i64 1, .int .i64 1, .int .i64 1, .int .i64 0, .bool false, .int .i64 0, .int .i64 0, .int .i64 0] 51)).alloc
  (.cells #[.slice (some ⟨w.heap.size + 1 + 1, 0, none⟩) 3 3] 33)) := (((((Gr.refl w).alloc _).alloc _).alloc _).alloc _).bel
 generalize ((((w.alloc (.cells #[.string ⟨#[65, 49]⟩, .int .i64 12, .int .i64 12, .bool false, .slice none 0 0, .string ⟨#[66, 50]⟩, .int .i64 6, .int .i64 3, .bool false, .slice none 0 0] 77)).alloc (.cells #[.int .i64 1, .slice (some ⟨w.heap.size, 0, none⟩) 2 2] 24)).alloc
  (.cells #[.int .i64 2, .int .i64 0, .int .i64 0, .int .i64 0, .bool false, .int .i64 0, .int .i64 0, .int .i64 0, .int .i64 1, .int .i64 1, .int .i64 0, .int .i64 0, .bool false, .int .i64 0, .int .i64 0, .int .i64 0, .int .i64 1, .int .i64 1, .int .i64 1, .int .i64 0, .bool false, .int .i64 0, .int .i64 0, .int .i64 0] 51)).alloc
  (.cells #[.slice (some ⟨w.heap.size + 1 + 1, 0, none⟩) 3 3] 33)) = W2 at hs hn m0 m1 m2 g2 ⊢
 have HS := hiD hs
 have HN := hiD hn
 have HM := hiD (And.intro m0 (And.intro m1 m2))
 have HG := hiD g2
 have n0 := lcc W2 _ m0
 clear hs hn m0 m1 m2 g2
 refine region_plan (.take 0 (.take 1 (.one 2 (.one 3 (.pure 4 (.pure 5 (.pure 6 (.pure 7 (.pure 8 .done))))))))) (Gr W2) [0, 1, 2] _ mixed (by kernel_rfl) (fun d _ _ _ _ h => by cases d <;> exact h) (fun _ _ h => h) ?_
 refine planW_take rfl rfl ((Gr.refl W2).drewN 1) (lv 1 (some ⟨w.heap.size, 0, none⟩) 2 2) (fun w' hg' => ?_) ?_
 ·have := hg'.cell HM.out.1
  have := hg'.cell HM.out.2.1
  go_simp
 refine planW_take rfl rfl ((Gr.refl W2).drewN 1) (.agg #[.slice (some ⟨w.heap.size + 1 + 1, 0, none⟩) 3 3]) (fun w' hg' => ?_) ?_
 ·have := hg'.cell HM.out.2.2
  go_simp
 refine planW_one rfl rfl (fun K hK => ?_)
 go_simp
 refine (page4_call W2.drew).mono ?_
 rintro e w3 ⟨rfl, hg3⟩
 have hw3 := (Gr.refl W2).drew.trans hg3
 refine hK.out _ _ (fun _ => hw3) ?_
 have HG3 := hiD hw3
 clear hK K hg3 hw3
 refine planW_one rfl rfl (fun K hK => ?_)
 go_simp
 have hE : LayEnv w3 1 (some ⟨w.heap.size, 0, none⟩) 2 2 (some ⟨w.heap.size + 1 + 1, 0, none⟩) 3 3 exL exN := ⟨HS.out.gr HG3.out, rfl, by decide, HN.out.gr HG3.out, rfl, by decide⟩
 refine (lay_ok 1 (some ⟨w.heap.size, 0, none⟩) 2 2 (some ⟨w.heap.size + 1 + 1, 0, none⟩) 3 3 exL exN (LeafG exL) exG 1 4800 w3 hE ex_check (by kernel_rfl) ex_plain ex_tx (by decide) (by decide) (by decide) (by decide)).mono ?_
 rintro e w4 ⟨v, rfl, hO, hg4⟩
 refine hK.out _ _ (fun h => by simp at h) ?_
 clear hK K hE
 obtain ⟨b0, b1, eb, hb⟩ := ex_boxes
 rw [eb] at hO
 obtain ⟨A, c, rfl, hr⟩ := hO.row (by simp)
 have HB := hiD (HG.out.trans (HG3.out.bel.trans hg4))
 have hr1 := hr.2 1 (raw b1) rfl
 obtain ⟨blk, off, rfl, hr1⟩ := hr1
 obtain ⟨q1, q2, q3, q4⟩ := hb
 have e2 : ((23 : Nat) : Int) = 23 := rfl
 have k7 : w4.cell? ⟨blk, off + 1 * 15 + 7, none⟩ = some (.int .i64 b1.x.num) := rowV_cell hr1 7 _ rfl
 have k8 : w4.cell? ⟨blk, off + 1 * 15 + 8, none⟩ = some (.int .i64 b1.x.den) := rowV_cell hr1 8 _ rfl
 have k9 : w4.cell? ⟨blk, off + 1 * 15 + 9, none⟩ = some (.int .i64 b1.y.num) := rowV_cell hr1 9 _ rfl
 have k10 : w4.cell? ⟨blk, off + 1 * 15 + 10, none⟩ = some (.int .i64 b1.y.den) := rowV_cell hr1 10 _ rfl
 rw [q1] at k7
 rw [q2, e2] at k8
 rw [q3] at k9
 rw [q4, e2] at k10
 simp only [Nat.one_mul, Nat.add_assoc, Nat.reduceAdd] at k7 k8 k9 k10
 simp only [List.length_cons, List.length_nil, Nat.zero_add, Nat.reduceAdd]
 have n1 := lcc w4 _ k7
 clear hO hr hr1 eb hg4 q1 q2 q3 q4 e2
 repeat (refine planW_pure_step rfl rfl (fun K hK => ?_); go_simp; refine hK _ ?_; clear hK K)
 simp only [planW]
 go_wp2_with fail
 go_ret
 exact ⟨rfl, HB.out⟩
end Go.Proofs.OGW
