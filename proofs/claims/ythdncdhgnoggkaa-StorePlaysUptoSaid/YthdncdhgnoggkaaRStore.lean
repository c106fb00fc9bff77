/-
  The contracts of names, of the reference's Load, Save, Recover.
  Conditions: lists are no longer than Go allows.
-/
import Derived.Test.YthdncdhgnoggkaaRList
import Derived.Test.YthdncdhgnoggkaaRFit
set_option linter.unusedSimpArgs false
set_option linter.unusedVariables false
namespace Go.Proofs.Ythdncdhgnoggkaa
open Go.RowKit

theorem drew2' (w : World) (a b : Nat) : ∃ m, (w.drewN a).drewN b = w.drewN m := ⟨_, World.drewN_drewN ..⟩
theorem encStr_inj {x y : List UInt8} (h : encStr x = encStr y) : x = y := by
  have h2 : (⟨x.toArray⟩ : ByteArray) = ⟨y.toArray⟩ := by simpa [encStr] using h
  have h3 := congrArg (fun b : ByteArray => b.data.toList) h2
  simpa using h3

set_option maxRecDepth 100000 in
set_option maxHeartbeats 4000000 in
theorem names_ok (b1 b2 : Nat) (v1 v2 : Value) (xs ys : List (List UInt8)) (w : World) (h1 : StrRow b1 w v1 xs) (h2 : StrRow b2 w v2 ys) :
    Calls Try.prog 25 #[v1, v2] w fun e w' => e = .returned (.bool (decide (xs = ys))) ∧ ∃ n, w' = w.drewN n := by
  obtain ⟨A1, c1, rfl, hl1, hc1⟩ := h1.cells
  obtain ⟨A2, c2, rfl, hl2, hc2⟩ := h2.cells
  clear h1 h2
  have HC1 := Lib.hid hc1
  have HC2 := Lib.hid hc2
  clear hc1 hc2
  by_cases hlen : xs.length = ys.length
  · obtain ⟨L, hL⟩ : ∃ L, xs.length = L := ⟨_, rfl⟩
    have hL2 : ys.length = L := by omega
    rw [hL] at hl1
    rw [hL2] at hl2
    rw [hL, hL2]
    have HL := Lib.hid hL
    have HL2 := Lib.hid hL2
    have hbne : ((L : Int) == (L : Int)) = true := by simp
    obtain ⟨d, hd⟩ : ∃ d, decide (xs = ys) = d := ⟨_, rfl⟩
    have HD := Lib.hid hd
    rw [hd]
    clear hL hL2 hlen hd
    go_enter Try.func25, Try.ntmps25
    go_wp2_with fail
    go_loopw [5] (fun i wr => ∃ k : Nat, k ≤ L ∧ i = .int .i64 k ∧ Hid (xs.take k = ys.take k) ∧ ∃ nq, wr = w.drewN nq) (fun i _ => L - (intOf i).toNat)
    case atStart => exact ⟨0, Nat.zero_le _, rfl, by simp [Hid], 0, rfl⟩
    case round =>
      obtain ⟨k, hk, rfl, HT, nq, rfl⟩ := hrel
      by_cases hkl : k < L
      · obtain ⟨x, hx⟩ : ∃ x, xs[k]? = some x := ⟨_, List.getElem?_eq_getElem (by have := HL.out; omega)⟩
        obtain ⟨y, hy⟩ : ∃ y, ys[k]? = some y := ⟨_, List.getElem?_eq_getElem (by have := HL2.out; omega)⟩
        obtain ⟨g1, rfl, z1⟩ := HC1.out k x hx
        obtain ⟨g2, rfl, z2⟩ := HC2.out k y hy
        have HX := Lib.hid hx
        have HY := Lib.hid hy
        obtain ⟨u, hu⟩ : ∃ u : ByteArray, u = ⟨x.toArray⟩ := ⟨_, rfl⟩
        obtain ⟨t, ht⟩ : ∃ t : ByteArray, t = ⟨y.toArray⟩ := ⟨_, rfl⟩
        have z1' : w.cell? ⟨g1, k, none⟩ = some (.string u) := by rw [z1, hu]
        have z2' : w.cell? ⟨g2, k, none⟩ = some (.string t) := by rw [z2, ht]
        have HU := Lib.hid hu
        have HTT := Lib.hid ht
        have i1 : (0 : Int) ≤ (k : Int) := by omega
        have i2 : (k : Int) < (L : Int) := by omega
        clear hx hy hu ht z1 z2
        by_cases hut : u = t
        · have hb : (u.toList == t.toList) = true := by simp [hut]
          have hxy : x = y := by
            have e1 := HU.out
            have e2 := HTT.out
            rw [e1, e2] at hut
            exact encStr_inj (by simp [encStr, hut])
          have HXY := Lib.hid hxy
          clear hut hxy
          go_wp2_with fail
          go_quiet (fail)
          go_wp2_with fail
          go_roundw
          case rel => exact ⟨k + 1, by omega, by go_num, by show _ = _; rw [List.take_add_one, List.take_add_one, HT.out, HX.out, HY.out, HXY.out], _, rfl⟩
          case measure => simp [intOf]; omega
        · have hb : (u.toList == t.toList) = false := toList_ne hut
          have hxy : xs ≠ ys := fun e => hut (by
            rw [HU.out, HTT.out]
            have e1 := HX.out
            rw [e, HY.out] at e1
            cases e1
            rfl)
          have HDF : Hid (d = false) := by show d = false; rw [← HD.out]; exact decide_eq_false hxy
          clear hut hxy
          go_wp2_with fail
          go_quiet (fail)
          go_wp2_with fail
          go_ret
          exact ⟨ret_bool HDF.out.symm, drew2' _ _ _⟩
      · obtain rfl : k = L := by omega
        have HDT : Hid (d = true) := by
          show d = true
          rw [← HD.out]
          have h1 := HT.out
          rw [List.take_of_length_le (by have := HL.out; omega), List.take_of_length_le (by have := HL2.out; omega)] at h1
          exact decide_eq_true h1
        go_wp2_with fail
        go_ret
        exact ⟨ret_bool HDT.out.symm, _, rfl⟩
  · have hd : decide (xs = ys) = false := decide_eq_false (fun e => hlen (by rw [e]))
    rw [hd]
    have hb : ((xs.length : Int) == (ys.length : Int)) = false := by simp; omega
    clear hd hlen
    go_enter Try.func25, Try.ntmps25
    go_wp2
    go_ret
    exact ⟨rfl, 0, rfl⟩

set_option maxRecDepth 100000 in
set_option maxHeartbeats 2000000 in
theorem rload_ok (S : Nat → Prop) (db : Nat) (s : RDk) (p : ByteArray) (w : World) (N M : Nat) (h : RDisk S w db s) (hp : p.size ≤ 70368744177664) (hfit : RFit N M s) (hN : N ≤ 549755813888) :
    Calls Try.prog 16 #[fptr db, .string p] w (RReadP S w db (rload p s)) := by
  have HR := Lib.hid (rright_ok p w (by omega))
  unfold fptr
  cases hr : right p with
  | true =>
    have HE : rload p s = rread p s := by simp [rload, hr]
    rw [HE]
    rw [hr] at HR
    have HRD := Lib.hid (rread_ok S db s p w N M h (by omega) hfit hN)
    unfold fptr at HRD
    clear hr HE h
    go_enter Try.func16, Try.ntmps16
    go_wp2_with (first | (go_at_call 28; refine HR.out.mono ?_; rintro e w1 ⟨rfl, rfl⟩) | (go_at_call 46; refine HRD.out.mono ?_; rintro e w2 ⟨v, rfl, hv, h2⟩))
    go_ret2
    exact ⟨v, rfl, hv, h2⟩
  | false =>
    have HE : rload p s = (1, none, s) := by simp [rload, hr]
    rw [HE]
    rw [hr] at HR
    clear hr HE
    go_enter Try.func16, Try.ntmps16
    go_wp2_with (go_at_call 28; refine HR.out.mono ?_; rintro e w1 ⟨rfl, rfl⟩)
    go_ret2
    exact ⟨_, rfl, BytesIn.nil _ _, h.mono (fun _ hs => .inl hs), Touch.refl _ _⟩
theorem RAfter.trans {S : Nat → Prop} {w w1 w2 : World} {db : Nat} {s s' : RDk} (h : RAfter S w db s w1) (k : RAfter (Grow S w) w1 db s' w2) : RAfter S w db s' w2 :=
  ⟨k.1.mono (fun j hj => by rcases hj with hj | hj; exact hj; exact .inr (Nat.le_trans h.2.size hj)), h.2.trans k.2⟩
theorem RAfter.start {S : Nat → Prop} {w : World} {db : Nat} {s : RDk} (h : RDisk S w db s) : RAfter S w db s w := ⟨h.mono (fun _ hs => .inl hs), Touch.refl _ _⟩
end Go.Proofs.Ythdncdhgnoggkaa
