/-
  What two saves at a fresh disk leave, and that boots and a recovery leave it so (plain; no program).
  Conditions: the bytes find room.
-/
import Derived.Test.YthdncdhgnoggkaaAlive
set_option linter.unusedSimpArgs false
set_option linter.unusedVariables false
namespace Go.Proofs.Ythdncdhgnoggkaa

def one (room : Int) (a : List Int) : Dk := ⟨room, [⟨a, a⟩], [(nameB, 0)], [(nameB, 0)], [], [], 5, false⟩
def two (room : Int) (a b : List Int) (n : Int) : Dk := ⟨room, [⟨a, a⟩, ⟨b, b⟩], [(nameB, 1)], [(nameB, 1)], [], [], n, false⟩

theorem okB : okName nameB = true := by decide
theorem okT : okName (tmp nameB) = true := by decide
theorem rightB : right nameB = true := by decide
theorem neT : ¬ tmp nameB = nameB := by decide
theorem neN : ¬ nameB = noName := by decide
theorem neB : ¬ nameB = tmp nameB := by decide

/-- Room enough, in the model's own words. -/
theorem room_for {room : Int} {u : Int} {n : Nat} (hr : 0 ≤ room ∧ room ≤ 1073741824) (hu : 0 ≤ u) (h : u + n ≤ room) : ¬ ((room - u + 9223372036854775808) % 18446744073709551616 - 9223372036854775808 < n) := by omega

theorem save_one (a : List Int) (room : Int) (hr : 0 ≤ room ∧ room ≤ 1073741824) (ha : (a.length : Int) ≤ room) (ha2 : a.length ≤ 1048576) : save nameB a (fresh room) = (0, one room a) := by
  have h1 : ¬ (1048576 : Int) < a.length := by omega
  have h2 := room_for (n := a.length) hr (u := 0) (by omega) (by omega)
  rw [Int.sub_zero] at h2
  simp [save, rightB, h1, create, step, okT, okB, fresh, kindAt, findI, w64, find, change, toDir, erase, put, write, there, left, used, h2, fsync, rename, dirsync, neT, neB, nowAt, one]
theorem save_two (a b : List Int) (room : Int) (hr : 0 ≤ room ∧ room ≤ 1073741824) (ha : (a.length : Int) + b.length ≤ room) (ha2 : b.length ≤ 1048576) : save nameB b (one room a) = (0, two room a b 10) := by
  have h1 : ¬ (1048576 : Int) < b.length := by omega
  have h2 := room_for (n := b.length) hr (u := a.length) (by omega) (by omega)
  simp [save, rightB, h1, create, step, okT, okB, one, kindAt, findI, w64, find, change, toDir, erase, put, write, there, left, used, h2, fsync, rename, dirsync, neT, neB, neN, nowAt, two]
theorem bootFile_same (kept : List Int) (i : Nat) (x : List Int) : bootFile kept i ⟨x, x⟩ = ⟨x, x⟩ := by
  unfold bootFile
  dsimp only
  split
  · split
    · rename_i k _ h
      have : (min k (x.length : Int)).toNat = x.length := by omega
      rw [this, List.take_length]
    · rfl
  · rfl
theorem boot_two (room : Int) (a b : List Int) (n en : Int) (kept : List Int) : boot en kept (two room a b n) = two room a b n := by
  simp [boot, two, bootFile_same]
theorem recover_two (room : Int) (a b : List Int) (n : Int) : recover nameB (two room a b n) = (0, two room a b n) := by
  have h : (nameB == tmp nameB) = false := by decide
  simp [recover, rightB, listed, two, h]
theorem load_two (room : Int) (a b : List Int) : load nameB (two room a b 10) = (0, some b, two room a b 11) := by
  simp [load, rightB, read, there, step, okB, two, kindAt, findI, w64, find, nowAt]
theorem listing_two (room : Int) (a b : List Int) (n : Int) : (listing (two room a b n)).length = 1 := by
  simp [listing, two, sortedKeys_length]
end Go.Proofs.Ythdncdhgnoggkaa
