/-
  The contract of quirelaw01.Same at equal bytes; bytes as a string.
  Conditions: the bytes can be read.
-/
import Derived.Test.YthdncdhgnoggkaaRecover
import Derived.Laws.BytesString
import Derived.Laws.Cells
set_option linter.unusedSimpArgs false
set_option linter.unusedVariables false
namespace Go.Proofs.Ythdncdhgnoggkaa
open Go.RowKit

/-- The string of these bytes. -/
def bstr (xs : List Int) : ByteArray := xs.foldl (fun r n => r.push (UInt8.ofNat n.toNat)) ByteArray.empty
theorem Src.conv {w : World} {v : Value} {xs : List Int} (h : Src w v xs) : (convert 22 9 v).run Try.prog w = .ok (.string (bstr xs)) w := by
  rcases h.2 with ⟨rfl, rfl⟩ | ⟨ad, c, rfl, hc⟩
  · rw [run_convert_bytes_string w 22 9 5 none 0 0 Try.underlying22 Try.underlying5 Try.underlying9]
    rfl
  · rw [run_convert_bytes_string w 22 9 5 (some ad) xs.length c Try.underlying22 Try.underlying5 Try.underlying9]
    refine run_bytesToString w ad xs.length c xs ?_
    have := run_loadCells_list (P := Try.prog) w ad (u8s xs) hc
    rw [show (u8s xs).length = xs.length by simp [u8s]] at this
    exact this

set_option maxRecDepth 100000 in
set_option maxHeartbeats 2000000 in
theorem same_ok (v1 v2 : Value) (xs ys : List Int) (w : World) (h1 : Src w v1 xs) (h2 : Src w v2 ys) :
    Calls Try.prog 13 #[v1, v2] w fun e w' => e = .returned (.bool (decide (bstr xs = bstr ys))) ∧ w' = w := by
  have k1 := h1.conv
  have k2 := h2.conv
  obtain ⟨A1, c1, rfl, hl1⟩ := h1.len
  obtain ⟨A2, c2, rfl, hl2⟩ := h2.len
  clear h1 h2
  go_enter Try.func13, Try.ntmps13
  go_wp2
  go_ret
  refine ⟨?_, rfl⟩
  rw [← toList_beq]
  rfl

theorem alive_model : (save ⟨#[98]⟩ [120] (fresh 100)).1 = 0 ∧ (save ⟨#[98]⟩ [120] (fresh 100)).2.steps = 5 := by
  constructor
  · decide
  · decide
end Go.Proofs.Ythdncdhgnoggkaa
