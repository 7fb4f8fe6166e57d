/- The grid that is laid out comes back: law GridBack holds for all its arguments. The condition is the law's own. -/
import Derived.Test.YtmejcmollpbcfaaGreatP52
set_option linter.all false
namespace Go.Proofs.YtmejcmollpbcfaaGreat
open Go.ChangeShapes Go.WideShapes Go.ChangeAt Go.RowKit Go.Proofs.OGW
theorem gridBack_own : ownKnob Tryz.prog.godebug = none := by kernel_rfl
theorem gridBack_laidOut : laidOutB Tryz.prog = true := by kernel_rfl
set_option maxRecDepth 100000 in
theorem gridBack_lifted (os : Os) (started : os.Started) (H : Type) (enc : TypeId × Value → H) :
 ReturnsInHanded {} Tryz.checked os 5 .any (Rows.gridBackSpec.pre6 enc Tryz.prog Tryz.f5 Rows.gridBackRow.domain false) (Rows.gridBackSpec.post enc Tryz.prog Tryz.f5 false true false false) := by
 refine returnsInHanded_of_change_sized (C := Tryz.checked) gridBack_own started (by kernel_rfl) Tryz.func5
  (ChangeSpec.witness6 (enc := enc) (C := Tryz.checked) false ⟨#[], #[.agg #[.int .i64 0, .slice none 0 0, .slice none 0 0], .agg #[.int .i64 0, .int .i64 0], .slice none 0 0], []⟩ 8 (by kernel_rfl) (by kernel_rfl) (by kernel_rfl) (by kernel_rfl)) ?_
 intro W base args ds gs before hval0 hW _ hsz0 _
 have hsz : (DataW.weightsEach Tryz.prog (Tryz.f5.params.toList ++ Rows.gridBackSpec.plain.varTypes Tryz.prog) (ds ++ gs)).all (· ≤ reachBytes) = true := hsz0
 clear hsz0
 have hval : ∀ (j : Nat) t v, Tryz.f5.params[j]? = some t → args[j]? = some v → Value.okWide Tryz.prog W .any base t v := hval0
 have hW' := hW
 obtain ⟨p, q, hA0, hV, rfl, _, _⟩ := hW
 have hA : DataW.TrodAll enc Tryz.prog W 0 (fun _ => true) true Tryz.f5.params.toList args.toList ds p := hA0
 rw [Tryz.params5] at hA hval hsz
 obtain ⟨v0, v1, v2, d0, d1, d2, p0, p1, p2, rfl, rfl, rfl, h0, h1, h2⟩ := trodAll_three hA
 obtain ⟨rfl, rfl⟩ := trodVars_none hV
 obtain ⟨cs0, rfl, _⟩ := okWide_struct Tryz.underlying56 (hval 0 56 v0 rfl rfl)
 obtain ⟨cs1, rfl, _⟩ := okWide_struct Tryz.underlying27 (hval 1 27 v1 rfl rfl)
 obtain ⟨a2, len2, cap2, rfl⟩ := okWide_slice Tryz.underlying57 (hval 2 57 v2 rfl rfl)
 have h0k := h0
 have h1k := h1
 have h2k := h2
 obtain ⟨f0, hf0⟩ := h0
 obtain ⟨f1, hf1⟩ := h1
 obtain ⟨f2, hf2⟩ := h2
 clear hA0 hval0
 simp only [List.append_nil] at hW'
 have hlt : ∀ x ∈ p0 ++ p1 ++ p2, x.block < W.heap.size := fun x hx => by simpa using hW'.lt x hx
 have hs := List.all_eq_true.1 hsz
 have s0 : Sized 56 d0 := fun n hn => by simpa using hs n (DataW.weights_mem_each (j := 0) rfl rfl n hn)
 have s1 : Sized 27 d1 := fun n hn => by simpa using hs n (DataW.weights_mem_each (j := 1) rfl rfl n hn)
 have s2 : Sized 57 d2 := fun n hn => by simpa using hs n (DataW.weights_mem_each (j := 2) rfl rfl n hn)
 obtain ⟨most, SA, sn, sc, l, A, len, c, ns, e0, r1, r2, r3, r4, r5⟩ := open_paper hf0 s0
 obtain ⟨way, L, e1⟩ := open_page hf1 s1
 obtain ⟨O, olen, ocap, xs, e2, q1, q2, q3⟩ := open_nums hf2 s2
 have e0' : cs0 = #[.int .i64 most, .slice SA sn sc, .slice A len c] := Array.toList_inj.1 e0
 have e1' : cs1 = #[.int .i64 way, .int .i64 L] := Array.toList_inj.1 e1
 simp [Value.cells] at e2
 obtain ⟨rfl, rfl, rfl⟩ := e2
 subst e0' e1'
 refine (back_call most SA sn sc A len c l ns way L a2 len2 cap2 xs W r1 r2 r3 r4 r5 q1 q2 q3).mono fun e W' ⟨he, hb⟩ => ?_
 subst he
 refine ⟨_, rfl, _, _, _, [], p0 ++ (p1 ++ p2), [], hW', trodAll_mk1 (shut_bool Tryz.underlying4 true), ?_, rfl, Below.frame hb _, fun h => by cases h⟩
 exact trodAll_mk3 (Below.trod gridBack_laidOut (by kernel_rfl) (of_decide_eq_true (by kernel_rfl)) h0k hb (fun x hx => hlt x (by simp [hx])))
  (Below.trod gridBack_laidOut (by kernel_rfl) (of_decide_eq_true (by kernel_rfl)) h1k hb (fun x hx => hlt x (by simp [hx])))
  (Below.trod gridBack_laidOut (by kernel_rfl) (of_decide_eq_true (by kernel_rfl)) h2k hb (fun x hx => hlt x (by simp [hx])))
theorem gridBack_holds : Rows.GridBackSaid :=
 OpenClaim.holds_of_wide 5 Tryz.f5 rfl rfl rfl rfl rfl rfl rfl ⟨rfl, rfl, rfl, rfl, rfl⟩ rfl rfl rfl rfl rfl (by kernel_rfl) Tryz.func5 (by kernel_rfl)
  (of_decide_eq_true (by kernel_rfl)) (by unfold Func.isWrapper; rw [if_neg (of_decide_eq_false (by kernel_rfl))]; exact ⟨rfl, rfl⟩)
  (fun os started H enc _ => gridBack_lifted os started H enc)
#print axioms gridBack_holds
end Go.Proofs.YtmejcmollpbcfaaGreat
