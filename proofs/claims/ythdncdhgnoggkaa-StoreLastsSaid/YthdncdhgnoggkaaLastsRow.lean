/-
  'quirelaw22.StoreLasts' is true for every input.
-/
import Derived.Test.YthdncdhgnoggkaaOpen
set_option linter.unusedSimpArgs false
set_option linter.unusedVariables false
namespace Go.Proofs.Ythdncdhgnoggkaa
open Go.ChangeShapes Go.WideShapes Go.ChangeAt Go.RowKit

theorem lasts_any (A1 A2 : Option Addr) (n1 n2 c1 c2 : Nat) (A3 : Option Addr) (n3 c3 : Nat) (kept : List Int) (en times : Int) (w : World)
    (h1 : n1 ≤ 140737488355328 → ∃ xs, xs.length = n1 ∧ Src w (.slice A1 n1 c1) xs) (h2 : n2 ≤ 140737488355328 → ∃ xs, xs.length = n2 ∧ Src w (.slice A2 n2 c2) xs) (h3 : IntsAt w A3 n3 kept)
    (hen : -9223372036854775808 ≤ en ∧ en ≤ 9223372036854775807) :
    Calls Try.prog 3 #[.slice A1 n1 c1, .slice A2 n2 c2, .int .i64 en, .slice A3 n3 c3, .int .i64 times] w fun e w' => e = .returned (.bool true) ∧ Below w.heap.size w w' := by
  by_cases h : (n1 : Int) ≤ 4096 ∧ (n2 : Int) ≤ 4096 ∧ 0 ≤ times ∧ times ≤ 20
  · obtain ⟨a, ha, hsa⟩ := h1 (by omega)
    obtain ⟨b, hb, hsb⟩ := h2 (by omega)
    obtain ⟨T, rfl⟩ : ∃ T : Nat, times = T := ⟨times.toNat, by omega⟩
    exact lasts_main _ _ a b A3 n3 c3 kept en T w hsa hsb h3 (by omega) (by omega) (by omega) hen
  · exact lasts_long A1 A2 A3 n1 n2 n3 c1 c2 c3 en times w h

set_option maxRecDepth 100000 in
theorem lasts_lifted (os : Os) (started : os.Started) (H : Type) (enc : TypeId × Value → H) :
    ReturnsInHanded {} Try.checked os 3 .any (Rows.storeLastsSpec.pre6 enc Try.prog Try.f3 Rows.storeLastsRow.domain false) (Rows.storeLastsSpec.post enc Try.prog Try.f3 false true false false) := by
  refine returnsInHanded_of_change (C := Try.checked) own started (by kernel_rfl) Try.func3
    (ChangeSpec.witness6 (enc := enc) (C := Try.checked) false ⟨#[], #[.slice none 0 0, .slice none 0 0, .int .i64 0, .slice none 0 0, .int .i64 0], []⟩ 8 (by kernel_rfl) (by kernel_rfl) (by kernel_rfl) (by kernel_rfl)) ?_
  intro W base args ds gs before hval0 hW hcnd _
  have hval : ∀ (j : Nat) t v, Try.f3.params[j]? = some t → args[j]? = some v → Value.okWide Try.prog W .any base t v := hval0
  have hW' := hW
  obtain ⟨p, q, hA0, hV, rfl, hfz, hnd⟩ := hW
  have hA : DataW.TrodAll enc Try.prog W 0 (fun _ => true) true Try.f3.params.toList args.toList ds p := hA0
  rw [Try.params3] at hA hval
  obtain ⟨v0, vs0, d0, ds0, p0, q0, hargs, rfl, rfl, h0, r0⟩ := trodAll_cons hA
  obtain ⟨v1, vs1, d1, ds1, p1, q1, rfl, rfl, rfl, h1, r1⟩ := trodAll_cons r0
  obtain ⟨v2, vs2, d2, ds2, p2, q2, rfl, rfl, rfl, h2, r2⟩ := trodAll_cons r1
  obtain ⟨v3, vs3, d3, ds3, p3, q3, rfl, rfl, rfl, h3, r3⟩ := trodAll_cons r2
  obtain ⟨v4, vs4, d4, ds4, p4, q4, rfl, rfl, rfl, h4, r4⟩ := trodAll_cons r3
  obtain ⟨rfl, rfl, rfl⟩ := trodAll_nil r4
  obtain rfl : args = #[v0, v1, v2, v3, v4] := by cases args; simp_all
  obtain ⟨rfl, rfl⟩ := trodVars_none hV
  have k0 := h0
  have k1 := h1
  have k3 := h3
  obtain ⟨A1, n1, c1, rfl, s1⟩ := open_bytes (hval 0 22 v0 rfl rfl) h0
  obtain ⟨A2, n2, c2, rfl, s2⟩ := open_bytes (hval 1 22 v1 rfl rfl) h1
  obtain ⟨en, rfl, rfl, rfl, wen⟩ := open_int Try.underlying3 (hval 2 3 v2 rfl rfl) h2
  obtain ⟨A3, n3, c3, kept, rfl, s3⟩ := open_nums (hval 3 23 v3 rfl rfl) h3
  obtain ⟨times, rfl, rfl, rfl, wt⟩ := open_int Try.underlying3 (hval 4 3 v4 rfl rfl) h4
  clear hA0 hval0
  simp only [List.append_nil, List.nil_append] at hW'
  have hlt := fun x hx => hW'.lt x hx
  have hen : -9223372036854775808 ≤ en ∧ en ≤ 9223372036854775807 := by
    simp [Lit.wf] at wen
    exact wen
  refine (lasts_any A1 A2 n1 n2 c1 c2 A3 n3 c3 kept en times W s1 s2 s3 hen).mono fun e W' ⟨he, hb⟩ => ?_
  subst he
  refine ⟨_, rfl, post_new (pa := p0 ++ (p1 ++ ([] ++ (p3 ++ ([] ++ []))))) (pv := []) hW' (fun _ _ _ => trodAll_mk1 (shut_bool Try.underlying4 true)) ?_ (by trivial) (by simp) ?_⟩
  · rw [Try.params3]
    exact trodAll_cons_mk (Below.trod laidOut (by kernel_rfl) (of_decide_eq_true (by kernel_rfl)) k0 hb (fun x hx => by simpa using hlt x (by simp [hx]))) (trodAll_cons_mk (Below.trod laidOut (by kernel_rfl) (of_decide_eq_true (by kernel_rfl)) k1 hb (fun x hx => by simpa using hlt x (by simp [hx])))
      (trodAll_cons_mk (shut_int Try.underlying3 wen) (trodAll_cons_mk (Below.trod laidOut (by kernel_rfl) (of_decide_eq_true (by kernel_rfl)) k3 hb (fun x hx => by simpa using hlt x (by simp [hx]))) (trodAll_cons_mk (shut_int Try.underlying3 wt) trodAll_mk0))))
  · exact hb.frame _

theorem lasts_holds : Rows.StoreLastsSaid :=
  OpenClaim.holds_of_wide 3 Try.f3 rfl rfl rfl rfl rfl rfl rfl ⟨rfl, rfl, rfl, rfl, rfl⟩ rfl rfl rfl rfl rfl (by kernel_rfl) Try.func3 (by kernel_rfl)
    (of_decide_eq_true (by kernel_rfl)) (by unfold Func.isWrapper; first | (rw [if_pos (by decide +kernel)]; kernel_rfl) | (rw [if_neg (by decide +kernel)]; exact ⟨rfl, rfl⟩))
    (fun os started H enc _ => lasts_lifted os started H enc)
#print axioms lasts_holds
end Go.Proofs.Ythdncdhgnoggkaa
