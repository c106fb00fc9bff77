/-
  The contracts of the functions that look at names: simfs.Name, what it calls of package strings, store.Right, store.Temp; and of slices.ContainsFunc at a list of names.
  Conditions: a name is no longer than Go allows. Each call leaves all memory that was there as it was.
-/
import Derived.Test.YthdncdhgnoggkaaProg
import Derived.Test.YthdncdhgnoggkaaModel
import Derived.WalkKit
import Derived.WalkSpells
import Derived.WalkLawsBesides
import Derived.Lib.Hide
namespace Go.Proofs.Ythdncdhgnoggkaa
open Go.RowKit

theorem ret_bool {a b : Bool} (h : a = b) : Ending.returned (.bool a) = .returned (.bool b) := by rw [h]
theorem ret_int {k : IntKind} {a b : Int} (h : a = b) : Ending.returned (.int k a) = .returned (.int k b) := by rw [h]
theorem ret_str {a b : ByteArray} (h : a = b) : Ending.returned (.string a) = .returned (.string b) := by rw [h]

def badRune (c : Int) : Bool := decide (c < 33) || decide (126 < c) || (c == 47)

theorem nameC_ok (c : Int) (w : World) : Calls Try.prog 71 #[.int .i32 c] w fun e w' => e = .returned (.bool (badRune c)) ∧ w = w' := by
  go_enter Try.func71, Try.ntmps71
  go_wp2
  all_goals go_ret
  all_goals exact ⟨ret_bool (by simp [badRune, *]), rfl⟩

theorem width_pos (s : ByteArray) (pos : Nat) (h : pos < s.size) : 1 ≤ (Utf8.decode s pos).2 := by
  by_cases ha : (s[pos]'h).toNat < 128
  · rw [decode_ascii s pos h ha]
    exact Nat.le_refl _
  · exact (decode_high s pos h (by omega)).2

theorem byte_ok (s : ByteArray) (pos : Nat) (h : pos < s.size) :
    (okByte (s[pos]'h) = true → badRune (Utf8.decode s pos).1 = false) ∧ (badRune (Utf8.decode s pos).1 = false → okByte (s[pos]'h) = true ∧ (Utf8.decode s pos).2 = 1) := by
  by_cases ha : (s[pos]'h).toNat < 128
  · rw [decode_ascii s pos h ha]
    simp only [okByte, badRune, Bool.and_eq_true, decide_eq_true_eq, Bool.or_eq_false_iff, decide_eq_false_iff_not, bne_iff_ne, ne_eq, beq_eq_false_iff_ne, UInt8.le_iff_toNat_le, and_true]
    have e : (s[pos]'h) = 47 ↔ ((s[pos]'h).toNat : Int) = 47 := by
      rw [← UInt8.toNat_inj]; simp; omega
    rw [e]
    have e1 : (33 : UInt8).toNat = 33 := rfl
    have e2 : (126 : UInt8).toNat = 126 := rfl
    rw [e1, e2]
    omega
  · have h2 := (decode_high s pos h (by omega)).1
    have : badRune (Utf8.decode s pos).1 = true := by simp [badRune]; omega
    rw [this]
    simp [okByte, UInt8.le_iff_toNat_le]
    omega

/-- the bytes are all fine -/
def okFrom (s : ByteArray) : Prop := ∀ i (h : i < s.size), okByte (s[i]'h) = true
theorem okFrom_iff (s : ByteArray) : okFrom s ↔ allOk s = true := by
  unfold okFrom allOk
  rw [List.all_eq_true]
  constructor
  · intro h x hx
    obtain ⟨i, hi, rfl⟩ := List.getElem_of_mem hx
    exact h i (by simpa using hi)
  · intro h i hi
    exact h _ (List.getElem_mem (l := s.data.toList) (by simpa using hi))

theorem indexFunc_ok (s : ByteArray) (w : World) :
    Calls Try.prog 91 #[.string s, .func (.func 71) #[] #[], .bool true] w fun e w' => (∃ r : Int, e = .returned (.int .i64 r) ∧ (0 ≤ r ↔ ¬ okFrom s)) ∧ Below w.heap.size w w' := by
  go_enter Try.func91, Try.ntmps91
  go_wp2
  go_loopw [7, 8] (fun _ _ w' => ∃ pos : Nat, w' = w.iter s pos ∧ pos ≤ s.size ∧ (∀ i (h : i < s.size), i < pos → okByte (s[i]'h) = true)) (fun _ _ w' => s.size - w'.iterPos w.heap.size)
  case atStart => exact ⟨0, rfl, by omega, fun i h h' => by omega⟩
  case round =>
    obtain ⟨pos, rfl, hle, hok⟩ := hrel
    by_cases hp : pos < s.size
    · have hnx : ∀ ty, (Instr.next (.pointer (some ⟨w.heap.size, 0, none⟩)) true ty).run Try.prog (w.iter s pos) = _ := fun ty => run_next_any w s pos ty hp
      go_wp2_with (go_at_call 71; refine (nameC_ok _ _).mono ?_; rintro e w' ⟨rfl, rfl⟩)
      · go_ret
        rename_i hbad
        refine ⟨⟨pos, rfl, ⟨fun _ hall => ?_, fun _ => by omega⟩⟩, (Below.refl _ w).alloc (Nat.le_refl _) _⟩
        have h1 := hall pos hp
        have h2 := (byte_ok s pos hp).1 h1
        simp [h2] at hbad
      · rename_i hbad
        go_roundw
        case rel =>
          have hb : badRune (Utf8.decode s pos).1 = false := by simpa using hbad
          obtain ⟨h1, h2⟩ := (byte_ok s pos hp).2 hb
          exact ⟨pos + (Utf8.decode s pos).2, rfl, by omega, fun i hi hlt => by
            by_cases e : i < pos
            · exact hok i hi e
            · obtain rfl : i = pos := by omega
              exact h1⟩
        case measure =>
          have := width_pos s pos hp
          simp
          omega
    · have hnx : ∀ ty, (Instr.next (.pointer (some ⟨w.heap.size, 0, none⟩)) true ty).run Try.prog (w.iter s pos) = _ := fun ty => run_next_end w s pos ty hp
      go_wp2
      go_ret
      refine ⟨⟨-1, rfl, ⟨fun h => by omega, fun h => absurd (fun i hi => hok i hi (by omega)) h⟩⟩, (Below.refl _ w).alloc (Nat.le_refl _) _⟩

theorem index_ok (s : ByteArray) (w : World) :
    Calls Try.prog 78 #[.string s, .func (.func 71) #[] #[]] w fun e w' => (∃ r : Int, e = .returned (.int .i64 r) ∧ (0 ≤ r ↔ ¬ okFrom s)) ∧ Below w.heap.size w w' := by
  go_enter Try.func78, Try.ntmps78
  go_wp2_with fail
  refine (indexFunc_ok _ _).mono ?_
  rintro e w' ⟨⟨r, rfl, hr⟩, hb⟩
  go_wp2
  go_ret
  exact ⟨⟨r, rfl, hr⟩, hb⟩

theorem contains_ok (s : ByteArray) (w : World) :
    Calls Try.prog 70 #[.string s, .func (.func 71) #[] #[]] w fun e w' => e = .returned (.bool (!allOk s)) ∧ Below w.heap.size w w' := by
  go_enter Try.func70, Try.ntmps70
  go_wp2_with fail
  refine (index_ok _ _).mono ?_
  rintro e w' ⟨⟨r, rfl, hr⟩, hb⟩
  go_wp2
  go_ret
  refine ⟨ret_bool ?_, hb⟩
  rw [okFrom_iff] at hr
  rw [Bool.eq_iff_iff, decide_eq_true_eq, ge_iff_le, hr]
  simp

theorem size0 (s : ByteArray) : s.toList = [] ↔ s.size = 0 := by
  have : s.toList.length = s.size := by rw [ByteArray.toList_eq]; simp
  rw [← List.length_eq_zero_iff, this]

theorem name_ok (s : ByteArray) (w : World) (hs : s.size ≤ 9223372036854775807) :
    Calls Try.prog 54 #[.string s] w fun e w' => e = .returned (.bool (okName s)) ∧ Below w.heap.size w w' := by
  go_enter Try.func54, Try.ntmps54
  go_wp2_with (go_at_call 70; refine (contains_ok _ _).mono ?_; rintro e w' ⟨rfl, hb⟩)
  all_goals go_ret
  · rename_i h
    exact ⟨ret_bool (by rw [size0] at h; simp [okName, h]), Below.refl _ _⟩
  · rename_i h h2
    exact ⟨ret_bool (by
      have h3 : ¬ s.size = 0 := by rw [← size0]; exact h
      have h4 : s.size ≤ 64 := by omega
      have h5 : s.toList.isEmpty = false := by simpa using h
      simp [okName, h3, h4, h5]), hb⟩
  · rename_i h h2
    exact ⟨ret_bool (by
      have h4 : ¬ s.size ≤ 64 := by omega
      simp [okName, h4]), Below.refl _ _⟩


theorem temp_ok (s : ByteArray) (w : World) (hs : s.size ≤ 140737488355328) :
    Calls Try.prog 30 #[.string s] w fun e w' => e = .returned (.string (tmp s)) ∧ w = w' := by
  go_enter Try.func30, Try.ntmps30
  go_wp2
  go_ret
  exact ⟨rfl, rfl⟩

theorem sfx_ok (s : ByteArray) (w : World) (hs : s.size ≤ 9223372036854775807) :
    Calls Try.prog 72 #[.string s, .string ⟨#[46, 116, 109, 112]⟩] w fun e w' => e = .returned (.bool (endsTmp s)) ∧ w = w' := by
  go_enter Try.func72, Try.ntmps72
  go_wp2
  all_goals go_ret
  all_goals rename_i h
  · exact ⟨ret_bool (by have h' : 4 ≤ s.size := by omega
                        simp [endsTmp, h']), rfl⟩
  · exact ⟨ret_bool (by have h' : ¬ 4 ≤ s.size := by omega
                        simp [endsTmp, h']), rfl⟩
theorem hasSfx_ok (s : ByteArray) (w : World) (hs : s.size ≤ 9223372036854775807) :
    Calls Try.prog 55 #[.string s, .string ⟨#[46, 116, 109, 112]⟩] w fun e w' => e = .returned (.bool (endsTmp s)) ∧ w = w' := by
  go_enter Try.func55, Try.ntmps55
  go_wp2_with (go_at_call 72; refine (sfx_ok _ _ hs).mono ?_; rintro e w' ⟨rfl, rfl⟩)
  go_ret
  exact ⟨rfl, rfl⟩
theorem right_ok (s : ByteArray) (w : World) (hs : s.size ≤ 9223372036854775807) :
    Calls Try.prog 27 #[.string s] w fun e w' => e = .returned (.bool (right s)) ∧ Below w.heap.size w w' := by
  by_cases h60 : s.size ≤ 60
  all_goals
    cases hn : okName s
    all_goals
      have HN : Hid (okName s = _) := hn
      clear hn
      go_enter Try.func27, Try.ntmps27
      go_wp2_with (first
        | (go_at_call 54; refine (name_ok _ _ hs).mono ?_; rintro e w' ⟨rfl, hb⟩; rw [HN.out])
        | (go_at_call 55; refine (hasSfx_ok _ _ hs).mono ?_; rintro e w' ⟨rfl, rfl⟩))
      go_ret
      exact ⟨ret_bool (by have := HN.out; simp [right, *]), hb⟩

/-- A slice of strings that is read. -/
def StrsAt (w : World) (A : Option Addr) (n : Nat) (ss : List ByteArray) : Prop :=
  ss.length = n ∧ n ≤ 140737488355328 ∧ (0 < n → ∃ b o, A = some ⟨b, o, none⟩ ∧ ∀ j, j < n → w.cell? ⟨b, o + j, none⟩ = some (.string (ss.getD j ByteArray.empty)))
theorem StrsAt.below {w w' : World} {A : Option Addr} {n : Nat} {ss : List ByteArray} (h : StrsAt w A n ss) (hb : Below w.heap.size w w') : StrsAt w' A n ss := by
  refine ⟨h.1, h.2.1, fun hn => ?_⟩
  obtain ⟨b, o, e, hc⟩ := h.2.2 hn
  refine ⟨b, o, e, fun j hj => ?_⟩
  have h1 := hc j hj
  exact (hb.cell (World.block_lt_of_cell? w _ h1)).trans h1

theorem stepC_ok (s : ByteArray) (w : World) (hs : s.size ≤ 9223372036854775807) :
    Calls Try.prog 69 #[.string s] w fun e w' => e = .returned (.bool (!okName s)) ∧ Below w.heap.size w w' := by
  go_enter Try.func69, Try.ntmps69
  go_wp2_with (go_at_call 54; refine (name_ok _ _ hs).mono ?_; rintro e w' ⟨rfl, hb⟩)
  go_ret
  exact ⟨rfl, hb⟩

theorem idxNames_ok (A : Option Addr) (n c : Nat) (ss : List ByteArray) (w : World) (h : StrsAt w A n ss) (hs : ∀ s ∈ ss, s.size ≤ 9223372036854775807) :
    Calls Try.prog 77 #[.slice A n c, .func (.func 69) #[] #[]] w fun e w' => (∃ r : Int, e = .returned (.int .i64 r) ∧ (0 ≤ r ↔ ¬ ss.all okName = true)) ∧ Below w.heap.size w w' := by
  go_enter Try.func77, Try.ntmps77
  go_wp2
  go_loopw [4, 5, 8] (fun r _ i w' => r = .int .i64 0 ∧ ∃ k : Nat, k ≤ n ∧ i = .int .i64 k ∧ Below w.heap.size w w' ∧ (∀ j, j < k → okName (ss.getD j ByteArray.empty) = true)) (fun _ _ i _ => n - (intOf i).toNat)
  case atStart => exact ⟨rfl, 0, by omega, rfl, Below.refl _ _, fun j hj => by omega⟩
  case round =>
    obtain ⟨rfl, k, hk, rfl, hB, hok⟩ := hrel
    have hn := h.2.1
    by_cases hlt : k < n
    · obtain ⟨b, o, rfl, hc⟩ := h.2.2 (by omega)
      have hcell : wr.cell? ⟨b, o + k, none⟩ = some (.string (ss.getD k ByteArray.empty)) := (hB.cell (World.block_lt_of_cell? w _ (hc k hlt))).trans (hc k hlt)
      generalize hsk : ss.getD k ByteArray.empty = sk at hcell
      have hsz : sk.size ≤ 9223372036854775807 := by
        have hl := h.1
        rw [List.getD_eq_getElem?_getD, List.getElem?_eq_getElem (by omega), Option.getD_some] at hsk
        exact hs _ (hsk ▸ List.getElem_mem _)
      have HSK := Lib.hid hsk
      clear hsk hc
      cases hnm : okName sk
      all_goals
        have HN : Hid (okName sk = _) := hnm
        clear hnm
        go_wp2_with (go_at_call 69; refine (stepC_ok _ _ hsz).mono ?_; rintro e w' ⟨rfl, hb⟩; rw [HN.out])
      · go_ret
        exact ⟨⟨k, rfl, ⟨fun _ hall => by
          rw [List.all_eq_true] at hall
          have hl := h.1
          have h1 := HSK.out
          rw [List.getD_eq_getElem?_getD, List.getElem?_eq_getElem (by omega), Option.getD_some] at h1
          have h2 := hall _ (h1 ▸ List.getElem_mem _)
          rw [HN.out] at h2
          exact absurd h2 (by simp), fun _ => by omega⟩⟩, hB.trans (hb.mono hB.size)⟩
      · go_roundw
        case rel =>
          exact ⟨rfl, k + 1, by omega, by go_num, hB.trans (hb.mono hB.size), fun j hj => by
            by_cases e : j = k
            · subst e; rw [HSK.out]; exact HN.out
            · exact hok j (by omega)⟩
        case measure => simp [intOf]; omega
    · go_wp2
      go_ret
      refine ⟨⟨-1, rfl, ⟨fun h => by omega, fun hx => absurd ?_ hx⟩⟩, hB⟩
      rw [List.all_eq_true]
      intro x hx
      obtain ⟨i, hi, rfl⟩ := List.getElem_of_mem hx
      have hl := h.1
      have h1 := hok i (by omega)
      rwa [List.getD_eq_getElem?_getD, List.getElem?_eq_getElem (by omega), Option.getD_some] at h1

theorem hasBad_ok (A : Option Addr) (n c : Nat) (ss : List ByteArray) (w : World) (h : StrsAt w A n ss) (hs : ∀ s ∈ ss, s.size ≤ 9223372036854775807) :
    Calls Try.prog 68 #[.slice A n c, .func (.func 69) #[] #[]] w fun e w' => e = .returned (.bool (!ss.all okName)) ∧ Below w.heap.size w w' := by
  go_enter Try.func68, Try.ntmps68
  go_wp2_with fail
  refine (idxNames_ok A n c ss w h hs).mono ?_
  rintro e w' ⟨⟨r, rfl, hr⟩, hb⟩
  have HR := Lib.hid hr
  clear hr
  go_wp2
  go_ret
  refine ⟨ret_bool ?_, hb⟩
  rw [Bool.eq_iff_iff, decide_eq_true_eq, HR.out]
  simp
end Go.Proofs.Ythdncdhgnoggkaa
