/-
  'quirelaw22.StorePlays' is true for every input whose arguments hold together at most 1048576 values and letters.
-/
import Derived.Test.YthdncdhgnoggkaaOpen2
import Derived.Test.YthdncdhgnoggkaaPlays
import Derived.JoinedCond
set_option linter.unusedSimpArgs false
set_option linter.unusedVariables false
namespace Go.Proofs.Ythdncdhgnoggkaa
open Go.ChangeShapes Go.WideShapes Go.ChangeAt Go.RowKit

theorem cellsOf43 : Try.prog.cellsOf 43 = 6 := by kernel_rfl
theorem cellsOf9 : Try.prog.cellsOf 9 = 1 := by kernel_rfl
theorem cellsOf22' : Try.prog.cellsOf 22 = 1 := by kernel_rfl
theorem cellsOf23 : Try.prog.cellsOf 23 = 1 := by kernel_rfl
theorem cellsOf41 : Try.prog.cellsOf 41 = 1 := by kernel_rfl
theorem len6 {α : Type} {l : List α} (h : l.length = 6) : ∃ a b c d e f, l = [a, b, c, d, e, f] := by
  match l, h with
  | [a, b, c, d, e, f], _ => exact ⟨a, b, c, d, e, f, rfl⟩
section
variable {H : Type} {enc : TypeId × Value → H} {W : World} {base : Nat} {sp : Nat → Bool} {held : Bool}
theorem nil_cap {fuel : Nat} {A : Option Addr} {n c : Nat} {x : DataW H × List MemPlace} (h : DataW.trod enc Try.prog W base sp held fuel 41 [.slice A n c] = some x) : A = none → c = 0 := by
  rcases Go.Deep.open_slice Try.underlying41 h with ⟨e, _⟩ | ⟨a, len, cap, m, n, D, Pl, e, _⟩
  · simp at e
    intro _
    exact e.2.2
  · simp at e
    intro hA
    rw [hA] at e
    simp at e
theorem part_bulk {ys : List (DataW H × List MemPlace)} {i : Nat} {y : DataW H × List MemPlace} (h : ys[i]? = some y) : Rows.uptoBulk y.1 ≤ Rows.uptoBulk (DataW.agg (ys.map (·.1))) := by
  have := bulks.part_le (d := y.1) (l := ys.map (·.1)) (List.mem_map.2 ⟨y, List.mem_of_getElem? h, rfl⟩)
  show _ ≤ Rows.uptoBulkAll (ys.map (·.1)) + 1
  omega
set_option maxRecDepth 100000 in
theorem op_of {fuel : Nat} {cs : List Value} {y : DataW H × List MemPlace} (h : DataW.trod enc Try.prog W base sp held fuel 43 cs = some y) (hb : Rows.uptoBulk y.1 ≤ 1048576) : ∃ q : OpR, cs = q.cells.toList ∧ OpOk W q := by
  obtain ⟨ys, n, _, hy, hl, hyl, hf⟩ := DataW.trod_struct Try.underlying43 h
  rw [cellsOf43] at hl
  rw [hy] at hb
  dsimp only at hb
  obtain ⟨v0, v1, v2, v3, v4, v5, rfl⟩ := len6 hl
  obtain ⟨y0, g0, h0⟩ := field1 hf hyl 0 _ rfl rfl rfl cellsOf3 (v := v0) rfl
  obtain ⟨y1, g1, h1⟩ := field1 hf hyl 1 _ rfl rfl rfl cellsOf3 (v := v1) rfl
  obtain ⟨y2, g2, h2⟩ := field1 hf hyl 2 _ rfl rfl rfl cellsOf9 (v := v2) rfl
  obtain ⟨y3, g3, h3⟩ := field1 hf hyl 3 _ rfl rfl rfl cellsOf22' (v := v3) rfl
  obtain ⟨y4, g4, h4⟩ := field1 hf hyl 4 _ rfl rfl rfl cellsOf23 (v := v4) rfl
  obtain ⟨y5, g5, h5⟩ := field1 hf hyl 5 _ rfl rfl rfl cellsOf41 (v := v5) rfl
  have b2 := part_bulk g2
  have b3 := part_bulk g3
  have b5 := part_bulk g5
  obtain ⟨k, e0, _⟩ := DataW.trod_int Try.underlying3 h0
  obtain ⟨m, e1, _, hw⟩ := DataW.trod_int Try.underlying3 h1
  obtain ⟨p, e2, e2', _⟩ := DataW.trod_string Try.underlying9 h2
  obtain ⟨dv, data, e3, hdl, hsrc⟩ := bytes_of h3
  obtain ⟨ka, kn, kc, kept, e4, hints⟩ := nums_of h4
  obtain ⟨pa, pn, pc, plan, e5, hpl, hpn, hfa⟩ := faults_of h5
  cases e0
  cases e1
  cases e2
  cases e3
  cases e4
  cases e5
  rw [e2', bulks.string_eq] at b2
  have hps : p.data.toList.length = p.size := by rw [Array.length_toList]; rfl
  refine ⟨⟨k, m, p, v3, data, ka, kn, kc, kept, pa, pn, pc, plan⟩, rfl, ?_⟩
  exact ⟨hsrc (by omega), hints, hfa, hpl, nil_cap h5, by dsimp only; omega, by dsimp only; omega, by dsimp only; omega, by
    simp [Lit.wf] at hw
    exact hw⟩
theorem ops_of {fuel : Nat} {cs : List Value} {x : DataW H × List MemPlace} (h : DataW.trod enc Try.prog W base sp held fuel 38 cs = some x) (hb : Rows.uptoBulk x.1 ≤ 1048576) :
    ∃ A n c ops, cs = [.slice A n c] ∧ ops.length = n ∧ n ≤ 1048576 ∧ OpsAt W A ops := by
  obtain ⟨A, n, c, rfl, hn, _, hx⟩ := open_elems Try.underlying38 cellsOf43 h
  obtain ⟨ops, hl, hp⟩ := list_of n (fun i (q : OpR) => OpOk W q ∧ ∃ a : Addr, A = some a ∧ ∀ j, j < 6 → W.cell? (a.add (i * 6 + j)) = q.cells[j]?) (fun i hi => by
    obtain ⟨a, m, cs', y, ha, ht, hby, hl, hc⟩ := hx i hi
    obtain ⟨q, rfl, hq⟩ := op_of ht (by omega)
    exact ⟨q, hq, a, ha, fun j hj => by rw [hc j hj, Array.getElem?_toList]⟩)
  refine ⟨A, n, c, ops, rfl, hl, by omega, fun j q hj => ?_⟩
  obtain ⟨hq, a, ha, h1⟩ := hp j q hj
  have h0 : 0 < ops.length := by have := (List.getElem?_eq_some_iff.1 hj).1; omega
  obtain ⟨_, a', ha', h2⟩ := hp 0 _ (List.getElem?_eq_getElem h0)
  rw [ha] at ha'
  cases ha'
  have h3 := h2 0 (by omega)
  have hv : ∃ u, (ops[0]'h0).cells[0]? = some u := ⟨_, rfl⟩
  obtain ⟨u, hu⟩ := hv
  rw [hu] at h3
  obtain ⟨b, o, rfl⟩ := addr_plain h3
  refine ⟨hq, b, o, ha, fun i hi => ?_⟩
  have := h1 i hi
  rw [add_plain] at this
  rw [Nat.add_assoc]
  exact this
end

theorem plays_any (room : Int) (A : Option Addr) (n c : Nat) (ops : List OpR) (w : World) (ho : OpsAt w A ops) (hn : ops.length = n) (hl : n ≤ 1048576) :
    Calls Try.prog 4 #[.int .i64 room, .slice A n c] w fun e w' => e = .returned (.bool true) ∧ Below w.heap.size w w' := by
  by_cases h : 0 ≤ room ∧ room ≤ 1073741824
  · exact plays_good room A n c ops w h ho hn hl
  · exact plays_bad room _ w h

set_option maxRecDepth 100000 in
theorem plays_lifted (os : Os) (started : os.Started) (H : Type) (enc : TypeId × Value → H) (F : Stop.Interp) :
    ReturnsInHanded {} Try.checked os 4 .any ((Rows.OpenSpec.upto Rows.storePlaysSpec).pre6 enc Try.prog Try.f4 Rows.storePlaysUptoRow.domain false) (((Rows.OpenSpec.upto Rows.storePlaysSpec).at F).post enc Try.prog Try.f4 false true false false) := by
  refine returnsInHanded_of_cond (C := Try.checked) (s := Rows.OpenSpec.upto Rows.storePlaysSpec) (k := Rows.uptoSmall) rfl own started (by kernel_rfl) Try.func4
    (OpenSpec.witness (enc := enc) (C := Try.checked) (s := Rows.OpenSpec.upto Rows.storePlaysSpec) (k := Rows.uptoSmall) rfl false ⟨#[], #[.int .i64 0, .slice none 0 0], []⟩ 8 (by kernel_rfl) (by kernel_rfl) (by kernel_rfl)
      (x := ([.lit (.int .i64 0), .nil], [], [])) (by kernel_rfl) rfl (by kernel_rfl)) ?_
  intro W base args ds gs before hval0 hW _ hk _
  have hval : ∀ (j : Nat) t v, Try.f4.params[j]? = some t → args[j]? = some v → Value.okWide Try.prog W .any base t v := hval0
  have hW' := hW
  obtain ⟨p, q, hA0, hV, rfl, hfz, hnd⟩ := hW
  have hA : DataW.TrodAll enc Try.prog W 0 (fun _ => true) true Try.f4.params.toList args.toList ds p := hA0
  rw [Try.params4] at hA hval
  obtain ⟨v0, vs0, d0, ds0, p0, q0, hargs, rfl, rfl, h0, r0⟩ := trodAll_cons hA
  obtain ⟨v1, vs1, d1, ds1, p1, q1, rfl, rfl, rfl, h1, r1⟩ := trodAll_cons r0
  obtain ⟨rfl, rfl, rfl⟩ := trodAll_nil r1
  obtain rfl : args = #[v0, v1] := by cases args; simp_all
  obtain ⟨rfl, rfl⟩ := trodVars_none hV
  have k1 := h1
  have hb : Rows.uptoBulkAll ([d0, d1] ++ []) ≤ 1048576 := bulks.bound hk
  simp only [List.append_nil, Rows.uptoBulkAll] at hb
  obtain ⟨a1, m1, c1, rfl⟩ := okWide_slice Try.underlying38 (hval 1 38 v1 rfl rfl)
  obtain ⟨f1, g1⟩ := h1
  obtain ⟨A2, n2, c2', ops, e1, hl2, hn2, s2⟩ := ops_of g1 (by show Rows.uptoBulk d1 ≤ _; omega)
  simp [Value.cells] at e1
  obtain ⟨rfl, rfl, rfl⟩ := e1
  obtain ⟨room, rfl, rfl, rfl, wro⟩ := open_int Try.underlying3 (hval 0 3 v0 rfl rfl) h0
  clear hA0 hval0 hA
  simp only [List.append_nil, List.nil_append] at hW'
  have hlt := fun x hx => hW'.lt x hx
  refine (plays_any room a1 m1 c1 ops W s2 hl2 hn2).mono fun e W' ⟨he, hb⟩ => ?_
  subst he
  refine ⟨_, rfl, post_new (s := Rows.storePlaysSpec) (pa := [] ++ (p1 ++ [])) (pv := []) hW' (fun _ _ _ => trodAll_mk1 (shut_bool Try.underlying4 true)) ?_ (by trivial) (by simp) ?_⟩
  · rw [Try.params4]
    exact trodAll_cons_mk (shut_int Try.underlying3 wro) (trodAll_cons_mk (Below.trod laidOut (by kernel_rfl) (of_decide_eq_true (by kernel_rfl)) k1 hb (fun x hx => by simpa using hlt x (by simp [hx]))) trodAll_mk0)
  · exact hb.frame _

theorem plays_holds : Rows.StorePlaysUptoSaid :=
  OpenClaim.holds_of_cond 4 Try.f4 rfl rfl rfl rfl rfl rfl rfl ⟨rfl, rfl, rfl, rfl, rfl⟩ rfl rfl rfl rfl rfl (by kernel_rfl) Try.func4 (by kernel_rfl)
    (of_decide_eq_true (by kernel_rfl)) (by unfold Func.isWrapper; first | (rw [if_pos (by decide +kernel)]; kernel_rfl) | (rw [if_neg (by decide +kernel)]; exact ⟨rfl, rfl⟩))
    (fun os started H enc _ F => plays_lifted os started H enc F)
#print axioms plays_holds
end Go.Proofs.Ythdncdhgnoggkaa
