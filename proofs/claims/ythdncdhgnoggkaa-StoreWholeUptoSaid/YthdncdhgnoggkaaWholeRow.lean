/-
  'quirelaw22.StoreWhole' is true for every input whose arguments hold together at most 1048576 values and letters.
-/
import Derived.Test.YthdncdhgnoggkaaOpen2
import Derived.Test.YthdncdhgnoggkaaWhole
import Derived.JoinedCond
set_option linter.unusedSimpArgs false
set_option linter.unusedVariables false
namespace Go.Proofs.Ythdncdhgnoggkaa
open Go.ChangeShapes Go.WideShapes Go.ChangeAt Go.RowKit

theorem cellsOf22 : Try.prog.cellsOf 22 = 1 := by kernel_rfl
theorem len1 {α : Type} {l : List α} (h : l.length = 1) : ∃ a, l = [a] := by
  match l, h with
  | [a], _ => exact ⟨a, rfl⟩
/-- Saves that are read. -/
theorem saves_of {H : Type} {enc : TypeId × Value → H} {W : World} {base : Nat} {sp : Nat → Bool} {held : Bool} {fuel : Nat} {cs : List Value} {x : DataW H × List MemPlace} (h : DataW.trod enc Try.prog W base sp held fuel 60 cs = some x) (hb : Rows.uptoBulk x.1 ≤ 1048576) :
    ∃ A n c sv, cs = [.slice A n c] ∧ sv.length = n ∧ n ≤ 1048576 ∧ SavesAt W A sv := by
  obtain ⟨A, n, c, rfl, hn, _, hx⟩ := open_elems Try.underlying60 cellsOf22 h
  obtain ⟨sv, hl, hp⟩ := list_of n (fun i (q : Value × List Int) => ∃ a : Addr, A = some a ∧ W.cell? (a.add i) = some q.1 ∧ Src W q.1 q.2) (fun i hi => by
    obtain ⟨a, m, cs', y, ha, ht, hby, hl, hc⟩ := hx i hi
    obtain ⟨v, xs, rfl, hlx, hsx⟩ := bytes_of ht
    exact ⟨(v, xs), a, ha, by have := hc 0 (by omega); rw [Nat.mul_one, Nat.add_zero] at this; exact this, hsx (by omega)⟩)
  refine ⟨A, n, c, sv, rfl, hl, by omega, fun j q hj => ?_, fun q hq => ?_⟩
  · obtain ⟨a, ha, h1, _⟩ := hp j q hj
    have h0 : 0 < sv.length := by have := (List.getElem?_eq_some_iff.1 hj).1; omega
    obtain ⟨a', ha', h2, _⟩ := hp 0 _ (List.getElem?_eq_getElem h0)
    rw [ha] at ha'
    cases ha'
    obtain ⟨b, o, rfl⟩ := addr_plain h2
    rw [add_plain] at h1
    exact ⟨b, o, ha, h1⟩
  · obtain ⟨j, hj⟩ := List.getElem?_of_mem hq
    obtain ⟨_, _, _, h1⟩ := hp j q hj
    exact h1

set_option maxRecDepth 100000 in
theorem whole_lifted (os : Os) (started : os.Started) (H : Type) (enc : TypeId × Value → H) (F : Stop.Interp) :
    ReturnsInHanded {} Try.checked os 5 .any ((Rows.OpenSpec.upto Rows.storeWholeSpec).pre6 enc Try.prog Try.f5 Rows.storeWholeUptoRow.domain false) (((Rows.OpenSpec.upto Rows.storeWholeSpec).at F).post enc Try.prog Try.f5 false true false false) := by
  refine returnsInHanded_of_cond (C := Try.checked) (s := Rows.OpenSpec.upto Rows.storeWholeSpec) (k := Rows.uptoSmall) rfl own started (by kernel_rfl) Try.func5
    (OpenSpec.witness (enc := enc) (C := Try.checked) (s := Rows.OpenSpec.upto Rows.storeWholeSpec) (k := Rows.uptoSmall) rfl false ⟨#[], #[.slice none 0 0, .slice none 0 0, .int .i64 0, .slice none 0 0, .bool false], []⟩ 8 (by kernel_rfl) (by kernel_rfl) (by kernel_rfl)
      (x := ([.nil, .nil, .lit (.int .i64 0), .nil, .lit (.bool false)], [], [])) (by kernel_rfl) rfl (by kernel_rfl)) ?_
  intro W base args ds gs before hval0 hW _ hk _
  have hval : ∀ (j : Nat) t v, Try.f5.params[j]? = some t → args[j]? = some v → Value.okWide Try.prog W .any base t v := hval0
  have hW' := hW
  obtain ⟨p, q, hA0, hV, rfl, hfz, hnd⟩ := hW
  have hA : DataW.TrodAll enc Try.prog W 0 (fun _ => true) true Try.f5.params.toList args.toList ds p := hA0
  rw [Try.params5] at hA hval
  obtain ⟨v0, vs0, d0, ds0, p0, q0, hargs, rfl, rfl, h0, r0⟩ := trodAll_cons hA
  obtain ⟨v1, vs1, d1, ds1, p1, q1, rfl, rfl, rfl, h1, r1⟩ := trodAll_cons r0
  obtain ⟨v2, vs2, d2, ds2, p2, q2, rfl, rfl, rfl, h2, r2⟩ := trodAll_cons r1
  obtain ⟨v3, vs3, d3, ds3, p3, q3, rfl, rfl, rfl, h3, r3⟩ := trodAll_cons r2
  obtain ⟨v4, vs4, d4, ds4, p4, q4, rfl, rfl, rfl, h4, r4⟩ := trodAll_cons r3
  obtain ⟨rfl, rfl, rfl⟩ := trodAll_nil r4
  obtain rfl : args = #[v0, v1, v2, v3, v4] := by cases args; simp_all
  obtain ⟨rfl, rfl⟩ := trodVars_none hV
  have k0 := h0
  have k1 := h1
  have k3 := h3
  have hb : Rows.uptoBulkAll ([d0, d1, d2, d3, d4] ++ []) ≤ 1048576 := bulks.bound hk
  simp only [List.append_nil, Rows.uptoBulkAll] at hb
  obtain ⟨a0, m0, c0, rfl⟩ := okWide_slice Try.underlying60 (hval 0 60 v0 rfl rfl)
  obtain ⟨a1, m1, c1, rfl⟩ := okWide_slice Try.underlying41 (hval 1 41 v1 rfl rfl)
  obtain ⟨f0, g0⟩ := h0
  obtain ⟨A1, n1, c1', sv, e0, hl1, hn1, s1⟩ := saves_of g0 (by show Rows.uptoBulk d0 ≤ _; omega)
  obtain ⟨f1, g1⟩ := h1
  obtain ⟨A2, n2, c2', xs, e1, hl2, hn2, s2⟩ := faults_of g1
  simp [Value.cells] at e0 e1
  obtain ⟨rfl, rfl, rfl⟩ := e0
  obtain ⟨rfl, rfl, rfl⟩ := e1
  obtain ⟨en, rfl, rfl, rfl, wen⟩ := open_int Try.underlying3 (hval 2 3 v2 rfl rfl) h2
  obtain ⟨A3, n3, c3, kept, rfl, s3⟩ := open_nums (hval 3 23 v3 rfl rfl) h3
  obtain ⟨again, rfl, rfl, rfl⟩ := open_bool Try.underlying4 (hval 4 4 v4 rfl rfl) h4
  clear hA0 hval0 hA
  simp only [List.append_nil, List.nil_append] at hW'
  have hlt := fun x hx => hW'.lt x hx
  have hen : -9223372036854775808 ≤ en ∧ en ≤ 9223372036854775807 := by
    simp [Lit.wf] at wen
    exact wen
  refine (whole_ok a0 m0 c0 sv a1 m1 c1 xs en A3 n3 c3 kept again W s1 hl1 s2 hl2 s3 (by omega) (by have : m1 ≤ Rows.uptoBulk d1 := hn2; omega) hen).mono fun e W' ⟨he, hb⟩ => ?_
  subst he
  refine ⟨_, rfl, post_new (s := Rows.storeWholeSpec) (pa := p0 ++ (p1 ++ ([] ++ (p3 ++ ([] ++ []))))) (pv := []) hW' (fun _ _ _ => trodAll_mk1 (shut_bool Try.underlying4 true)) ?_ (by trivial) (by simp) ?_⟩
  · rw [Try.params5]
    exact trodAll_cons_mk (Below.trod laidOut (by kernel_rfl) (of_decide_eq_true (by kernel_rfl)) k0 hb (fun x hx => by simpa using hlt x (by simp [hx]))) (trodAll_cons_mk (Below.trod laidOut (by kernel_rfl) (of_decide_eq_true (by kernel_rfl)) k1 hb (fun x hx => by simpa using hlt x (by simp [hx])))
      (trodAll_cons_mk (shut_int Try.underlying3 wen) (trodAll_cons_mk (Below.trod laidOut (by kernel_rfl) (of_decide_eq_true (by kernel_rfl)) k3 hb (fun x hx => by simpa using hlt x (by simp [hx]))) (trodAll_cons_mk (shut_bool Try.underlying4 again) trodAll_mk0))))
  · exact hb.frame _

theorem whole_holds : Rows.StoreWholeUptoSaid :=
  OpenClaim.holds_of_cond 5 Try.f5 rfl rfl rfl rfl rfl rfl rfl ⟨rfl, rfl, rfl, rfl, rfl⟩ rfl rfl rfl rfl rfl (by kernel_rfl) Try.func5 (by kernel_rfl)
    (of_decide_eq_true (by kernel_rfl)) (by unfold Func.isWrapper; first | (rw [if_pos (by decide +kernel)]; kernel_rfl) | (rw [if_neg (by decide +kernel)]; exact ⟨rfl, rfl⟩))
    (fun os started H enc _ F => whole_lifted os started H enc F)
#print axioms whole_holds
end Go.Proofs.Ythdncdhgnoggkaa
