/-
  The contract of quirelaw21.Plan: the faults, copied.
  Conditions: the faults can be read; they are at most 2^32.
-/
import Derived.Test.YthdncdhgnoggkaaSame
import Derived.Deep.RegionLaw
import Derived.Deep.AppendLies
set_option linter.unusedSimpArgs false
set_option linter.unusedVariables false
namespace Go.Proofs.Ythdncdhgnoggkaa
open Go.RowKit

/-- Faults that are read: At, Kind. -/
def FaultsAt (w : World) (A : Option Addr) (xs : List (Int × Int)) : Prop :=
  0 < xs.length → ∃ b o, A = some ⟨b, o, none⟩ ∧ ∀ (j : Nat) (p : Int × Int), xs[j]? = some p → w.cell? ⟨b, o + 2 * j, none⟩ = some (.int .i64 p.1) ∧ w.cell? ⟨b, o + 2 * j + 1, none⟩ = some (.int .i64 p.2)
def faultCells (xs : List (Int × Int)) : List Value := xs.flatMap fun p => [.int .i64 p.1, .int .i64 p.2]
theorem info95 : (Try.prog.info? 95).map (fun i => (i.zero, i.size, i.bytes)) = some (some (.agg #[.int .i64 0, .int .i64 0]), 2, 16) := by kernel_rfl
theorem cells_new2 (w : World) (a b : Value) (t : TypeId) : ∀ j u, [a, b][j]? = some u → (w.alloc (.cells #[a, b] t)).cell? ((⟨w.heap.size, 0, none⟩ : Addr).add j) = some u := by
  intro j u hj
  have h := World.alloc_heap_new w (.cells #[a, b] t)
  have ha : (⟨w.heap.size, 0, none⟩ : Addr).add j = ⟨w.heap.size, j, none⟩ := by unfold Addr.add; split <;> simp_all
  rw [ha]
  simp only [World.cell?, h]
  simpa using hj
def GivesFaults (w : World) (xs : List (Int × Int)) (e : Ending) (w' : World) : Prop := ∃ v, e = .returned v ∧ w'.ownsRow w.heap.size 95 2 v xs.length (faultCells xs) ∧ Below w.heap.size w w'

set_option maxRecDepth 100000 in
set_option maxHeartbeats 4000000 in
theorem plan_ok (A : Option Addr) (n c : Nat) (xs : List (Int × Int)) (w : World) (h : FaultsAt w A xs) (hn : xs.length = n) (hl : n ≤ 4294967296) :
    Calls Try.prog 20 #[.slice A n c] w (GivesFaults w xs) := by
  obtain ⟨i0, hi, hz0, hz1, hz2⟩ := info_parts info95
  have HI := Lib.hid hi
  have HN := Lib.hid hn
  have HF := Lib.hid h
  clear hi hn h
  go_enter Try.func20, Try.ntmps20
  go_wp2_with fail
  go_loopw [3, 4] (fun v i wr => ∃ k : Nat, k ≤ n ∧ i = .int .i64 k ∧ (∃ g cp, v = .slice g k cp) ∧ Hid (wr.ownsRow w.heap.size 95 2 v k (faultCells (xs.take k))) ∧ Below w.heap.size w wr) (fun _ i _ => n - (intOf i).toNat)
  case atStart => exact ⟨0, Nat.zero_le _, rfl, ⟨none, 0, rfl⟩, ⟨rfl, .inl ⟨rfl, rfl⟩⟩, Below.refl _ _⟩
  case round =>
    obtain ⟨k, hk, rfl, ⟨g, cp, rfl⟩, ho, hb⟩ := hrel
    by_cases hkl : k < n
    · have hkx : k < xs.length := by have := HN.out; omega
      obtain ⟨b, o, rfl, hc⟩ := HF.out (by omega)
      obtain ⟨p, hp⟩ : ∃ p, xs[k]? = some p := ⟨_, List.getElem?_eq_getElem hkx⟩
      obtain ⟨c0, c1⟩ := hc k p hp
      have c0' := (hb.cell (World.block_lt_of_cell? _ _ c0)).trans c0
      have c1' := (hb.cell (World.block_lt_of_cell? _ _ c1)).trans c1
      rw [Nat.mul_comm 2 k] at c0' c1'
      have HP := Lib.hid hp
      have hsz := hb.size
      clear hc hp c0 c1
      go_wp2_with fail
      go_region_law (refine step_append_lies _ rfl (.tmp 11) (.tmp 23) 48 rfl w.heap.size 95 i0 _ 2 16 Try.underlying48 HI.out hz0 hz1 hz2 rfl (by decide) (.slice g k cp) k (faultCells (xs.take k)) (by simp [Act.eval, Act.put]) (ho.out.drew.alloc _) ⟨wr.heap.size, 0, none⟩ 1 1 [.int .i64 p.1, .int .i64 p.2] (by simp [Act.eval, Act.put]) rfl (cells_new2 _ _ _ _) (by simp [Value.oneCell']) (by omega) (by unfold maxLen; omega) (by omega) (by show w.heap.size ≤ (wr.alloc _).heap.size; simp; omega) _ rfl (fun g1 cap1 w2 hown2 hg2 hat2 hlt2 => ?_))
      all_goals
        go_wp2
        go_roundw
        case rel =>
          refine ⟨k + 1, by omega, by go_num, ⟨_, _, rfl⟩, ?_, ?_⟩
          · have e : faultCells (xs.take (k + 1)) = faultCells (xs.take k) ++ [.int .i64 p.1, .int .i64 p.2] := by
              unfold faultCells
              rw [List.take_add_one, HP.out, List.flatMap_append]
              rfl
            show Hid (World.ownsRow _ _ _ _ _ _ _)
            rw [e]
            exact hown2
          · have h1 : Below w.heap.size w (wr.alloc (.cells #[.int .i64 p.1, .int .i64 p.2] 95)).drew := (hb.alloc hb.size _).drew
            exact h1.grown hg2 (by show w.heap.size ≤ (wr.alloc _).heap.size; simp; omega) (fun q e => own_base ho.out e)
        case measure => simp [intOf]; omega
    · obtain rfl : k = n := by omega
      go_wp2
      go_ret
      exact ⟨_, rfl, by have h1 := ho.out; have h2 := HN.out; rw [← h2, List.take_length] at h1; exact h2 ▸ h1, hb⟩
end Go.Proofs.Ythdncdhgnoggkaa
