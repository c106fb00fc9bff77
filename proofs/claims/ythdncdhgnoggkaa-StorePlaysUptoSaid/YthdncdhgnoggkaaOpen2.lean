/-
  Arguments that are slices of slices or of structs, opened; what the bound on what is read gives.
  No condition.
-/
import Derived.Test.YthdncdhgnoggkaaBulk
import Derived.Test.YthdncdhgnoggkaaOpen
import Derived.Test.YthdncdhgnoggkaaPlan
import Derived.Deep.Slices
import Derived.Deep.Fields
set_option linter.unusedSimpArgs false
set_option linter.unusedVariables false
namespace Go.Proofs.Ythdncdhgnoggkaa
open Go.ChangeShapes Go.WideShapes Go.ChangeAt Go.RowKit

section
variable {H : Type} {enc : TypeId × Value → H} {W : World} {base : Nat} {sp : Nat → Bool} {held : Bool}

theorem lits_length (k : IntKind) (zs : List Int) : (lits (H := H) k zs).length = zs.length := by simp [lits]

/-- A list that is known place by place. -/
theorem list_of {α : Type} (n : Nat) (P : Nat → α → Prop) (h : ∀ i, i < n → ∃ a, P i a) : ∃ l : List α, l.length = n ∧ ∀ i a, l[i]? = some a → P i a := by
  induction n with
  | zero => exact ⟨[], rfl, fun i a h => by simp at h⟩
  | succ n ih =>
    obtain ⟨l, hl, hp⟩ := ih (fun i hi => h i (by omega))
    obtain ⟨a, ha⟩ := h n (by omega)
    refine ⟨l ++ [a], by simp [hl], fun i x hx => ?_⟩
    by_cases hi : i < l.length
    · rw [List.getElem?_append_left hi] at hx
      exact hp i x hx
    · rw [List.getElem?_append_right (by omega)] at hx
      have : i - l.length = 0 := by
        rcases Nat.eq_zero_or_pos (i - l.length) with h0 | h0
        · exact h0
        · rw [List.getElem?_eq_none (by simp; omega)] at hx
          cases hx
      rw [this] at hx
      cases hx
      have : i = n := by omega
      subst this
      exact ha

/-- Every element of a slice, its cells and its datum; how much is read. -/
theorem open_elems {t e : TypeId} {sz fuel : Nat} {cs : List Value} {x : DataW H × List MemPlace} (ht : Try.prog.underlying t = some (.slice e)) (hC : Try.prog.cellsOf e = sz) (h : DataW.trod enc Try.prog W base sp held fuel t cs = some x) :
    ∃ (A : Option Addr) (n c : Nat), cs = [.slice A n c] ∧ n ≤ Rows.uptoBulk x.1 ∧ n ≤ c ∧ ∀ i, i < n → ∃ a m cs' y, A = some a ∧ DataW.trod enc Try.prog W base sp held m e cs' = some y ∧ Rows.uptoBulk y.1 ≤ Rows.uptoBulk x.1 ∧ cs'.length = sz ∧ ∀ j, j < sz → W.cell? (a.add (i * sz + j)) = cs'[j]? := by
  subst hC
  rcases Go.Deep.open_slice ht h with ⟨rfl, rfl⟩ | ⟨a, len, cap, m, n, D, Pl, rfl, _, hlc, _, hm, rfl, hx⟩
  · exact ⟨none, 0, 0, rfl, Nat.zero_le _, Nat.le_refl _, fun i hi => by omega⟩
  · have hlm : len ≤ m := by rw [hm]; split <;> omega
    have hb := bulks.slice_le ((List.range len).map D) ((List.range (m - len)).map fun j => D (len + j))
    have hb2 := bulks.slice_elems ((List.range len).map D) ((List.range (m - len)).map fun j => D (len + j))
    refine ⟨some a, len, cap, rfl, by simp at hb ⊢; omega, hlc, fun i hi => ?_⟩
    obtain ⟨cs', h1, h2⟩ := hx i (by omega)
    obtain ⟨_, hl, hc⟩ := World.cells?_some h1
    refine ⟨a, n, cs', _, rfl, h2, ?_, hl, fun j hj => ?_⟩
    · have := bulks.part_le (d := D i) (l := (List.range len).map D) (List.mem_map.2 ⟨i, List.mem_range.2 hi, rfl⟩)
      show Rows.uptoBulk (D i) ≤ Rows.uptoBulk (DataW.slice _ _)
      omega
    · rw [← hc j hj, ← Go.Deep.add_add]

theorem addr_plain {a : Addr} {v : Value} (h : W.cell? (a.add 0) = some v) : ∃ b o, a = ⟨b, o, none⟩ := by
  obtain ⟨b, o, s⟩ := a
  have : s = none := by
    have h1 := World.cell?_spot h
    unfold Addr.add at h1
    simpa using h1
  exact ⟨b, o, by rw [this]⟩

/-- Bytes that are read. -/
theorem bytes_of {fuel : Nat} {cs : List Value} {x : DataW H × List MemPlace} (h : DataW.trod enc Try.prog W base sp held fuel 22 cs = some x) :
    ∃ v xs, cs = [v] ∧ xs.length ≤ Rows.uptoBulk x.1 ∧ (xs.length ≤ 140737488355328 → Src W v xs) := by
  rcases open_ints Try.underlying22 Try.underlying5 cellsOf5 h with ⟨rfl, rfl⟩ | ⟨a, len, cap, zs, rfl, _, hlc, hm, hz, rfl, hcell, hwz⟩
  · exact ⟨_, [], rfl, Nat.zero_le _, fun _ => ⟨by simp, .inl ⟨rfl, rfl⟩⟩⟩
  · have hzl : len ≤ zs.length := by rw [hz]; split <;> omega
    have hlen : (zs.take len).length = len := by simp; omega
    refine ⟨_, zs.take len, rfl, ?_, fun hl => ⟨hl, .inr ⟨a, cap, by rw [hlen], fun j u hj => ?_⟩⟩⟩
    · have := bulks.slice_le (lits (H := H) .u8 (zs.take len)) (lits .u8 (zs.drop len))
      rw [lits_length] at this
      show _ ≤ Rows.uptoBulk (DataW.slice _ _)
      omega
    · simp only [u8s, List.getElem?_map, Option.map_eq_some_iff] at hj
      obtain ⟨x, hx, rfl⟩ := hj
      have hjl := (List.getElem?_eq_some_iff.1 hx).1
      rw [hlen] at hjl
      rw [hcell j (by omega)]
      rw [List.getElem?_take, if_pos hjl] at hx
      rw [List.getD_eq_getElem?_getD, hx]
      rfl

/-- Ints that are read. -/
theorem nums_of {fuel : Nat} {cs : List Value} {x : DataW H × List MemPlace} (h : DataW.trod enc Try.prog W base sp held fuel 23 cs = some x) :
    ∃ A n c xs, cs = [.slice A n c] ∧ IntsAt W A n xs := by
  rcases open_ints Try.underlying23 Try.underlying3 cellsOf3 h with ⟨rfl, rfl⟩ | ⟨a, len, cap, zs, rfl, _, hlc, hm, hz, rfl, hcell, hwz⟩
  · exact ⟨none, 0, 0, [], rfl, rfl, by omega, fun h => by omega⟩
  · have hzl : len ≤ zs.length := by rw [hz]; split <;> omega
    have hlen : (zs.take len).length = len := by simp; omega
    refine ⟨some a, len, cap, zs.take len, rfl, hlen, by unfold maxLen at hm; omega, fun hp => ?_⟩
    obtain ⟨b, o, rfl⟩ := addr_plain (hcell 0 (by omega))
    refine ⟨b, o, rfl, fun j hj => ?_⟩
    have := hcell j (by omega)
    rw [add_plain] at this
    rw [this]
    congr 2
    simp [List.getD_eq_getElem?_getD, List.getElem?_take, hj]

theorem cellsOf96 : Try.prog.cellsOf 96 = 2 := by kernel_rfl
/-- A field of one cell. -/
theorem field1 {fs : Array Field} {n : Nat} {cs : List Value} {ys : List (DataW H × List MemPlace)} (hf : ∀ (i : Nat) (f : Field), fs[i]? = some f → DataW.trod enc Try.prog W base sp held n f.type ((cs.drop f.offset).take (Try.prog.cellsOf f.type)) = ys[i]?)
    (hyl : ys.length = fs.size) (i : Nat) (f : Field) (hi : fs[i]? = some f) {t o : Nat} (ht : f.type = t) (ho : f.offset = o) (hC : Try.prog.cellsOf t = 1) {v : Value} (hv : cs[o]? = some v) : ∃ y, ys[i]? = some y ∧ DataW.trod enc Try.prog W base sp held n t [v] = some y := by
  have h := hf i f hi
  rw [ht, ho, hC] at h
  have hl := (List.getElem?_eq_some_iff.1 hv).1
  have e : (cs.drop o).take 1 = [v] := by
    rw [List.drop_eq_getElem_cons hl]
    have := (List.getElem?_eq_some_iff.1 hv).2
    simp [this]
  rw [e] at h
  have hil : i < ys.length := by have := (Array.getElem?_eq_some_iff.1 hi).1; omega
  rw [List.getElem?_eq_getElem hil] at h ⊢
  exact ⟨_, rfl, h⟩
theorem len2 {α : Type} {l : List α} (h : l.length = 2) : ∃ a b, l = [a, b] := by
  match l, h with
  | [a, b], _ => exact ⟨a, b, rfl⟩
theorem trod_pair {fuel : Nat} {cs : List Value} {y : DataW H × List MemPlace} (h : DataW.trod enc Try.prog W base sp held fuel 96 cs = some y) : ∃ a b, cs = [.int .i64 a, .int .i64 b] := by
  obtain ⟨ys, n, _, _, hl, hyl, hf⟩ := DataW.trod_struct Try.underlying96 h
  rw [cellsOf96] at hl
  obtain ⟨v0, v1, rfl⟩ := len2 hl
  obtain ⟨y0, _, h0⟩ := field1 hf hyl 0 _ rfl rfl rfl cellsOf3 (v := v0) rfl
  obtain ⟨y1, _, h1⟩ := field1 hf hyl 1 _ rfl rfl rfl cellsOf3 (v := v1) rfl
  obtain ⟨a, e0, _⟩ := DataW.trod_int Try.underlying3 h0
  obtain ⟨b, e1, _⟩ := DataW.trod_int Try.underlying3 h1
  cases e0
  cases e1
  exact ⟨a, b, rfl⟩
/-- Faults that are read. -/
theorem faults_of {fuel : Nat} {cs : List Value} {x : DataW H × List MemPlace} (h : DataW.trod enc Try.prog W base sp held fuel 41 cs = some x) :
    ∃ A n c xs, cs = [.slice A n c] ∧ xs.length = n ∧ n ≤ Rows.uptoBulk x.1 ∧ FaultsAt W A xs := by
  obtain ⟨A, n, c, rfl, hn, _, hx⟩ := open_elems Try.underlying41 cellsOf96 h
  obtain ⟨xs, hl, hp⟩ := list_of n (fun i (p : Int × Int) => ∃ a : Addr, A = some a ∧ W.cell? (a.add (i * 2 + 0)) = some (.int .i64 p.1) ∧ W.cell? (a.add (i * 2 + 1)) = some (.int .i64 p.2)) (fun i hi => by
    obtain ⟨a, m, cs', y, ha, ht, _, hl, hc⟩ := hx i hi
    obtain ⟨p, q, rfl⟩ := trod_pair ht
    exact ⟨(p, q), a, ha, hc 0 (by omega), hc 1 (by omega)⟩)
  refine ⟨A, n, c, xs, rfl, hl, hn, fun hpos => ?_⟩
  obtain ⟨a, ha, h0, h1⟩ := hp 0 _ (List.getElem?_eq_getElem hpos)
  obtain ⟨b, o, rfl⟩ := addr_plain h0
  refine ⟨b, o, ha, fun j p hj => ?_⟩
  obtain ⟨a', ha', g0, g1⟩ := hp j p hj
  rw [ha] at ha'
  cases ha'
  rw [add_plain] at g0 g1
  rw [Nat.mul_comm 2 j]
  exact ⟨g0, g1⟩
end
end Go.Proofs.Ythdncdhgnoggkaa
