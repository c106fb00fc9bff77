/-
  The contract of quirelaw22.StoreLasts: true, whatever comes.
  Conditions: the bytes and the numbers can be read.
-/
import Derived.Test.YthdncdhgnoggkaaLastsLaw
set_option linter.unusedSimpArgs false
set_option linter.unusedVariables false
namespace Go.Proofs.Ythdncdhgnoggkaa
open Go.RowKit

theorem out_of {w : World} {v : Value} {xs : List Int} (h : Src w v xs) : Out (fun k => w.heap.size ≤ k) v := by
  have := Out.grow (S := fun _ => False) h (fun ad n c e hn hs => hs)
  intro ad n c e hn hs
  exact this ad n c e hn (.inr hs)
theorem IntsAt.below {w w' : World} {A : Option Addr} {n : Nat} {xs : List Int} (h : IntsAt w A n xs) (hb : Below w.heap.size w w') : IntsAt w' A n xs := by
  refine ⟨h.1, h.2.1, fun hp => ?_⟩
  obtain ⟨b, o, e, hc⟩ := h.2.2 hp
  exact ⟨b, o, e, fun j hj => (hb.cell (World.block_lt_of_cell? _ _ (hc j hj))).trans (hc j hj)⟩

set_option maxRecDepth 100000 in
set_option maxHeartbeats 4000000 in
theorem lasts_long (A1 A2 A3 : Option Addr) (n1 n2 n3 c1 c2 c3 : Nat) (en times : Int) (w : World) (h : ¬ ((n1 : Int) ≤ 4096 ∧ (n2 : Int) ≤ 4096 ∧ 0 ≤ times ∧ times ≤ 20)) :
    Calls Try.prog 3 #[.slice A1 n1 c1, .slice A2 n2 c2, .int .i64 en, .slice A3 n3 c3, .int .i64 times] w fun e w' => e = .returned (.bool true) ∧ Below w.heap.size w w' := by
  have HA := Lib.hid (alive_ok w)
  by_cases h1 : (4096 : Int) < n1
  · go_enter Try.func3, Try.ntmps3
    go_wp2_with (go_at_call 6; refine HA.out.mono ?_; rintro e w1 ⟨rfl, hb⟩)
    go_ret
    exact ⟨rfl, hb⟩
  · by_cases h2 : (4096 : Int) < n2
    · clear h
      go_enter Try.func3, Try.ntmps3
      go_wp2_with (go_at_call 6; refine HA.out.mono ?_; rintro e w1 ⟨rfl, hb⟩)
      go_ret
      exact ⟨rfl, hb⟩
    · by_cases h3 : times < 0
      · clear h
        go_enter Try.func3, Try.ntmps3
        go_wp2_with (go_at_call 6; refine HA.out.mono ?_; rintro e w1 ⟨rfl, hb⟩)
        go_ret
        exact ⟨rfl, hb⟩
      · have h4 : 20 < times := by omega
        clear h
        go_enter Try.func3, Try.ntmps3
        go_wp2_with (go_at_call 6; refine HA.out.mono ?_; rintro e w1 ⟨rfl, hb⟩)
        go_ret
        exact ⟨rfl, hb⟩

set_option maxRecDepth 100000 in
set_option maxHeartbeats 4000000 in
theorem lasts_main (v1 v2 : Value) (a b : List Int) (A3 : Option Addr) (n3 c3 : Nat) (kept : List Int) (en : Int) (T : Nat) (w : World) (h1 : Src w v1 a) (h2 : Src w v2 b) (h3 : IntsAt w A3 n3 kept)
    (hla : a.length ≤ 4096) (hlb : b.length ≤ 4096) (hT : T ≤ 20) (hen : -9223372036854775808 ≤ en ∧ en ≤ 9223372036854775807) :
    Calls Try.prog 3 #[v1, v2, .int .i64 en, .slice A3 n3 c3, .int .i64 T] w fun e w' => e = .returned (.bool true) ∧ Below w.heap.size w w' := by
  obtain ⟨A1, c1, rfl, _⟩ := h1.len
  obtain ⟨A2, c2, rfl, _⟩ := h2.len
  have hb3 : ∀ b o, A3 = some ⟨b, o, none⟩ → 0 < n3 → b < w.heap.size := fun b o e hp => by
    obtain ⟨b', o', e', hc⟩ := h3.2.2 hp
    rw [e] at e'
    cases e'
    exact World.block_lt_of_cell? _ _ (hc 0 hp)
  have HN := Lib.hid (new_ok 1073741824 w (by omega))
  have HS1 : Hid (∀ w1, Disk (fun k => w.heap.size ≤ k) w1 (w.heap.size + 2) (fresh 1073741824) → Below w.heap.size w w1 → Calls Try.prog 8 #[.pointer (some ⟨w.heap.size + 2, 0, none⟩), .string ⟨#[98]⟩, .slice A1 a.length c1] w1 fun e w' => e = .returned (.int .i64 0) ∧ Disk (fun k => w.heap.size ≤ k) w' (w.heap.size + 2) (one 1073741824 a) ∧ Below w.heap.size w w') := fun w1 hd hb => by
    have k := save_ok (fun k => w.heap.size ≤ k) (w.heap.size + 2) (fresh 1073741824) nameB a _ w1 0 0 hd (h1.below hb) (out_of h1) (by decide) (fit_fresh 1073741824 (by omega)) (by omega) (by omega)
    rw [save_one a 1073741824 (by omega) (by omega) (by omega)] at k
    refine k.mono ?_
    rintro e w' ⟨rfl, hd2, ht2⟩
    exact ⟨rfl, hd2.mono (fun k hk => by rcases hk with hk | hk; exact hk; exact Nat.le_trans hb.size hk), hb.trans (ht2.below hb.size (fun k hk hs => by have : w.heap.size ≤ k := hs; omega))⟩
  have HS2 : Hid (∀ w1, Disk (fun k => w.heap.size ≤ k) w1 (w.heap.size + 2) (one 1073741824 a) → Below w.heap.size w w1 → Calls Try.prog 8 #[.pointer (some ⟨w.heap.size + 2, 0, none⟩), .string ⟨#[98]⟩, .slice A2 b.length c2] w1 fun e w' => e = .returned (.int .i64 0) ∧ Disk (fun k => w.heap.size ≤ k) w' (w.heap.size + 2) (two 1073741824 a b 10) ∧ Below w.heap.size w w') := fun w1 hd hb => by
    have k := save_ok (fun k => w.heap.size ≤ k) (w.heap.size + 2) (one 1073741824 a) nameB b _ w1 1 4096 hd (h2.below hb) (out_of h2) (by decide) ⟨by simp [one], by simp [one], by simp [one]; omega, by simp [one]⟩ (by omega) (by omega)
    rw [save_two a b 1073741824 (by omega) (by omega) (by omega)] at k
    refine k.mono ?_
    rintro e w' ⟨rfl, hd2, ht2⟩
    exact ⟨rfl, hd2.mono (fun k hk => by rcases hk with hk | hk; exact hk; exact Nat.le_trans hb.size hk), hb.trans (ht2.below hb.size (fun k hk hs => by have : w.heap.size ≤ k := hs; omega))⟩
  have HB : Hid (∀ w2, Disk (fun k => w.heap.size ≤ k) w2 (w.heap.size + 2) (two 1073741824 a b 10) → Below w.heap.size w w2 → Calls Try.prog 9 #[.pointer (some ⟨w.heap.size + 2, 0, none⟩), .int .i64 en, .slice A3 n3 c3] w2 fun e w' => e = .returned (.tuple #[]) ∧ Disk (fun k => w.heap.size ≤ k) w' (w.heap.size + 2) (two 1073741824 a b 10) ∧ Below w.heap.size w w') := fun w2 hd hb => by
    obtain ⟨r, hd⟩ := hd
    have k := boot_ok _ _ _ r en A3 n3 c3 kept w2 hd (h3.below hb) (fun b o e hp hs => by have := hb3 b o e hp; have : w.heap.size ≤ b := hs; omega) hen
    rw [boot_two] at k
    refine k.mono ?_
    rintro e w' ⟨rfl, hd2, ht2⟩
    exact ⟨rfl, hd2.mono (fun k hk => by rcases hk with hk | hk; exact hk; exact Nat.le_trans hb.size hk), hb.trans (ht2.below hb.size (fun k hk hs => by have : w.heap.size ≤ k := hs; omega))⟩
  have HR : Hid (∀ w2, Disk (fun k => w.heap.size ≤ k) w2 (w.heap.size + 2) (two 1073741824 a b 10) → Below w.heap.size w w2 → Calls Try.prog 10 #[.pointer (some ⟨w.heap.size + 2, 0, none⟩), .string ⟨#[98]⟩] w2 fun e w' => e = .returned (.int .i64 0) ∧ Disk (fun k => w.heap.size ≤ k) w' (w.heap.size + 2) (two 1073741824 a b 10) ∧ Below w.heap.size w w') := fun w2 hd hb => by
    have k := recover_ok _ _ _ nameB 1 w2 hd (by decide) ⟨by simp [two], by simp [two], by simp [two]; decide, by simp [two]; decide, by simp [two]⟩ (by omega) (by simp [two])
    rw [recover_two] at k
    refine k.mono ?_
    rintro e w' ⟨rfl, hd2, ht2⟩
    exact ⟨rfl, hd2.mono (fun k hk => by rcases hk with hk | hk; exact hk; exact Nat.le_trans hb.size hk), hb.trans (ht2.below hb.size (fun k hk hs => by have : w.heap.size ≤ k := hs; omega))⟩
  have HL : Hid (∀ w2, Disk (fun k => w.heap.size ≤ k) w2 (w.heap.size + 2) (two 1073741824 a b 10) → Calls Try.prog 11 #[.pointer (some ⟨w.heap.size + 2, 0, none⟩), .string ⟨#[98]⟩] w2 (ReadP (fun k => w.heap.size ≤ k) w2 (w.heap.size + 2) (0, some b, two 1073741824 a b 11))) := fun w2 hd => by
    have k := load_ok _ _ _ nameB w2 hd (by decide)
    rw [load_two] at k
    exact k
  have HLI : Hid (∀ w2, Disk (fun k => w.heap.size ≤ k) w2 (w.heap.size + 2) (two 1073741824 a b 11) → Calls Try.prog 12 #[.pointer (some ⟨w.heap.size + 2, 0, none⟩)] w2 (GivesStrs w2 (listing (two 1073741824 a b 11)))) := fun w2 hd => list_ok _ _ _ 1 w2 hd ⟨by simp [two], by simp [two], by simp [two]; decide, by simp [two]; decide, by simp [two]⟩ (by omega)
  have HA : Hid (∀ w2, Calls Try.prog 6 #[] w2 fun e w' => e = .returned (.bool true) ∧ Below w2.heap.size w2 w') := alive_ok
  have H2 := Lib.hid h2
  have hna : ¬ (4096 : Int) < a.length := by omega
  have hnb : ¬ (4096 : Int) < b.length := by omega
  have ht1 : ¬ (T : Int) < 0 := by omega
  have ht2 : ¬ (20 : Int) < T := by omega
  unfold fptr at HN
  clear h1 h2 h3 hb3
  go_enter Try.func3, Try.ntmps3
  go_wp2_with (first | (go_at_call 7; refine HN.out.mono ?_; rintro e w1 ⟨rfl, hd1, hb1⟩; have hs1 := HS1.out w1 hd1 hb1; clear HN) | (go_at_call 8; refine hs1.mono ?_; rintro e w2 ⟨rfl, hd2, hb2⟩; clear hs1; have hs2 := HS2.out w2 hd2 hb2) | (go_at_call 8; refine hs2.mono ?_; rintro e w3 ⟨rfl, hd3, hb3⟩))
  clear hs2 HS1 HS2 hb1 hb2 hd1 hd2
  go_loopw [13] (fun i wr => ∃ k : Nat, k ≤ T ∧ i = .int .i64 k ∧ Disk (fun k => w.heap.size ≤ k) wr (w.heap.size + 2) (two 1073741824 a b 10) ∧ Below w.heap.size w wr) (fun i _ => T - (intOf i).toNat)
  case atStart => exact ⟨0, Nat.zero_le _, rfl, hd3, hb3⟩
  case round =>
    obtain ⟨k, hk, rfl, hdk, hbk⟩ := hrel
    by_cases hkl : k < T
    · have hbo := HB.out wr hdk hbk
      go_wp2_with (go_at_call 9; refine hbo.mono ?_; rintro e w4 ⟨rfl, hd4, hb4⟩)
      go_roundw
      case rel => exact ⟨k + 1, by omega, by go_num, hd4, hb4⟩
      case measure => simp [intOf]; omega
    · obtain rfl : k = T := by omega
      have hre := HR.out wr hdk hbk
      have HLEN := Lib.hid (listing_two 1073741824 a b 11)
      go_wp2_with (first | (go_at_call 10; refine hre.mono ?_; rintro e w5 ⟨rfl, hd5, hb5⟩; have hld := HL.out w5 hd5) | (go_at_call 11; refine hld.mono ?_; rintro e w6 ⟨v, rfl, hv, hd6, ht6⟩; have hb6 : Below w.heap.size w w6 := hb5.trans (ht6.below hb5.size (fun k hk hs => by have : w.heap.size ≤ k := hs; omega)); have hli := HLI.out w6 (hd6.mono (fun k hk => by rcases hk with hk | hk; exact hk; exact Nat.le_trans hb5.size hk))) | (go_at_call 12; refine hli.mono ?_; rintro e w7 ⟨v7, rfl, hv7, hb7⟩; obtain ⟨A7, c7, rfl, _, _⟩ := hv7.cells; rw [HLEN.out]; have hb8 : Below w.heap.size w w7 := hb6.trans (hb7.mono hb6.size); have hsm := same_ok v (.slice A2 b.length c2) b b w7 (Src.below hv.src hb7) (H2.out.below hb8); rw [decide_eq_true rfl] at hsm) | (go_at_call 13; refine hsm.mono ?_; rintro e w8 ⟨rfl, hw8⟩; subst hw8; have hal := HA.out w8) | (go_at_call 6; refine hal.mono ?_; rintro e w9 ⟨rfl, hb9⟩))
      go_ret
      exact ⟨rfl, hb8.trans (hb9.mono hb8.size)⟩
end Go.Proofs.Ythdncdhgnoggkaa
