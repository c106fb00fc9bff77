/-
  The contracts of the reference's functions over names: Name, Right, Temp; of 'names'.
  Conditions: a name is no longer than Go allows.
-/
import Derived.Test.YthdncdhgnoggkaaRModel
import Derived.Test.YthdncdhgnoggkaaNames
set_option linter.unusedSimpArgs false
set_option linter.unusedVariables false
namespace Go.Proofs.Ythdncdhgnoggkaa
open Go.RowKit

theorem okByte_false {c : UInt8} (h : okByte c = false) : c.toNat < 33 ∨ 126 < c.toNat ∨ c.toNat = 47 := by
  simp only [okByte, Bool.and_eq_false_iff, decide_eq_false_iff_not, bne_eq_false_iff_eq, UInt8.le_iff_toNat_le] at h
  have e1 : (33 : UInt8).toNat = 33 := rfl
  have e2 : (126 : UInt8).toNat = 126 := rfl
  rcases h with (h | h) | h
  · left; omega
  · right; left; omega
  · right; right; rw [h]; rfl
theorem okByte_true {c : UInt8} (h : okByte c = true) : ¬ c.toNat < 33 ∧ ¬ 126 < c.toNat ∧ ¬ c.toNat = 47 := by
  simp only [okByte, Bool.and_eq_true, decide_eq_true_eq, bne_iff_ne, UInt8.le_iff_toNat_le, ne_eq] at h
  have e1 : (33 : UInt8).toNat = 33 := rfl
  have e2 : (126 : UInt8).toNat = 126 := rfl
  refine ⟨by omega, by omega, fun e => h.2 ?_⟩
  rw [← UInt8.toNat_inj]
  exact e

set_option maxRecDepth 100000 in
set_option maxHeartbeats 2000000 in
theorem rname_ok (s : ByteArray) (w : World) (hs : s.size ≤ 9223372036854775807) :
    Calls Try.prog 56 #[.string s] w fun e w' => e = .returned (.bool (okName s)) ∧ w' = w := by
  by_cases h0 : s.size = 0
  · have H0 : okName s = false := by simp [okName, h0]
    rw [H0]
    clear H0
    go_enter Try.func56, Try.ntmps56
    go_wp2
    go_ret
    exact ⟨rfl, rfl⟩
  by_cases h64 : s.size ≤ 64
  · have H0 : okName s = allOk s := by
      have : (s.size != 0) = true := by simpa using h0
      simp [okName, h64, this]
    rw [H0]
    clear H0
    have hsz : 1 ≤ s.size := by omega
    go_enter Try.func56, Try.ntmps56
    go_wp2_with fail
    go_loop [3] (fun i => ∃ k : Nat, k ≤ s.size ∧ i = .int .i64 k ∧ Hid (∀ i (h : i < s.size), i < k → okByte (s[i]'h) = true)) (fun i => s.size - (intOf i).toNat)
    case atStart => exact ⟨0, Nat.zero_le _, rfl, fun i h h' => by omega⟩
    case round =>
      obtain ⟨k, hk, rfl, HK⟩ := hrel
      by_cases hkl : k < s.size
      · cases hb : okByte (s[k]'hkl) with
        | true =>
          obtain ⟨h1, h2, h3⟩ := okByte_true hb
          have HB := Lib.hid hb
          have h3b : (((s[k]'hkl).toNat : Int) == 47) = false := by simp; omega
          clear hb
          go_wp2
          go_round
          case rel => exact ⟨k + 1, by omega, by go_num, fun i hi hlt => by
            by_cases e : i < k
            · exact HK.out i hi e
            · obtain rfl : i = k := by omega
              exact HB.out⟩
          case measure => simp [intOf]; omega
        | false =>
          have hall : allOk s = false := by
            rw [Bool.eq_false_iff]
            intro h
            have := (okFrom_iff s).2 h k hkl
            rw [hb] at this
            cases this
          have HALL := Lib.hid hall
          have hb3 := okByte_false hb
          clear hb hall
          by_cases c1 : (s[k]'hkl).toNat < 33
          · clear hb3
            go_wp2
            go_ret
            exact ⟨ret_bool HALL.out.symm, rfl⟩
          · by_cases c2 : 126 < (s[k]'hkl).toNat
            · clear hb3
              go_wp2
              go_ret
              exact ⟨ret_bool HALL.out.symm, rfl⟩
            · have c3 : (((s[k]'hkl).toNat : Int) == 47) = true := by simp; omega
              clear hb3
              go_wp2
              go_ret
              exact ⟨ret_bool HALL.out.symm, rfl⟩
      · obtain rfl : k = s.size := by omega
        have hall : allOk s = true := (okFrom_iff s).1 (fun i hi => HK.out i hi hi)
        have HALL := Lib.hid hall
        clear hall
        go_wp2
        go_ret
        exact ⟨ret_bool HALL.out.symm, rfl⟩
  · have H0 : okName s = false := by simp [okName, h64]
    rw [H0]
    clear H0
    go_enter Try.func56, Try.ntmps56
    go_wp2
    go_ret
    exact ⟨rfl, rfl⟩

theorem rtemp_ok (s : ByteArray) (w : World) (hs : s.size ≤ 140737488355328) :
    Calls Try.prog 40 #[.string s] w fun e w' => e = .returned (.string (tmp s)) ∧ w' = w := by
  go_enter Try.func40, Try.ntmps40
  go_wp2
  go_ret
  exact ⟨rfl, rfl⟩

set_option maxRecDepth 100000 in
set_option maxHeartbeats 2000000 in
theorem rright_ok (s : ByteArray) (w : World) (hs : s.size ≤ 9223372036854775807) :
    Calls Try.prog 28 #[.string s] w fun e w' => e = .returned (.bool (right s)) ∧ w' = w := by
  have HR := Lib.hid (rname_ok s w hs)
  cases hn : okName s with
  | false =>
    rw [hn] at HR
    have H0 : right s = false := by simp [right, hn]
    rw [H0]
    clear H0 hn
    go_enter Try.func28, Try.ntmps28
    go_wp2_with (go_at_call 56; refine HR.out.mono ?_; rintro e w1 ⟨rfl, hw⟩; subst hw)
    go_ret
    exact ⟨rfl, rfl⟩
  | true =>
    rw [hn] at HR
    by_cases h60 : s.size ≤ 60
    · by_cases h4 : 4 ≤ s.size
      · have H0 : right s = !endsTmp s := by simp [right, hn, h60]
        rw [H0]
        clear H0 hn
        go_enter Try.func28, Try.ntmps28
        go_wp2_with (go_at_call 56; refine HR.out.mono ?_; rintro e w1 ⟨rfl, hw⟩; subst hw)
        go_ret
        exact ⟨ret_bool (by simp [endsTmp, h4]), rfl⟩
      · have H0 : right s = true := by simp [right, hn, h60, endsTmp, h4]
        rw [H0]
        clear H0 hn
        go_enter Try.func28, Try.ntmps28
        go_wp2_with (go_at_call 56; refine HR.out.mono ?_; rintro e w1 ⟨rfl, hw⟩; subst hw)
        go_ret
        exact ⟨rfl, rfl⟩
    · have H0 : right s = false := by simp [right, h60]
      rw [H0]
      clear H0 hn
      go_enter Try.func28, Try.ntmps28
      go_wp2_with (go_at_call 56; refine HR.out.mono ?_; rintro e w1 ⟨rfl, hw⟩; subst hw)
      go_ret
      exact ⟨rfl, rfl⟩
end Go.Proofs.Ythdncdhgnoggkaa
