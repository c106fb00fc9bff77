/-
  The contracts of the reference's Save and Recover.
  Conditions: lists are no longer than Go allows.
-/
import Derived.Test.YthdncdhgnoggkaaRStore
set_option linter.unusedSimpArgs false
set_option linter.unusedVariables false
namespace Go.Proofs.Ythdncdhgnoggkaa
open Go.RowKit

theorem drew3 {w wr : World} (h : ∃ nq, wr = w.drewN nq) (m : Nat) : ∃ nq, wr.drewN m = w.drewN nq := by
  obtain ⟨nq, rfl⟩ := h
  exact drew2' _ _ _
theorem tmp_size (p : ByteArray) : (tmp p).size = p.size + 4 := by
  unfold tmp
  have : (⟨#[46, 116, 109, 112]⟩ : ByteArray).size = 4 := rfl
  simp [this]

theorem encStr_inj2 {a b : ByteArray} (h : a.data.toList = b.data.toList) : a = b := by
  have h1 := encStr_of a
  have h2 := encStr_of b
  rw [h, h2] at h1
  simpa using h1.symm
set_option maxRecDepth 100000 in
set_option maxHeartbeats 4000000 in
theorem rsave_ok (S : Nat → Prop) (db : Nat) (s : RDk) (p : ByteArray) (data : List Int) (v : Value) (w : World) (N M : Nat) (h : RDisk S w db s) (hsrc : Src w v data) (hout : Out S v) (hp : p.size ≤ 70368744177664) (hfit : RFit N M s) (hN : N + 8 ≤ 549755813888) (hNM : (N + 8) * M ≤ 9223372036854775807) (hMd : M + data.length ≤ 140737488355328) :
    Calls Try.prog 15 #[fptr db, .string p, v] w fun e w' => e = .returned (.int .i64 (rsave p data s).1) ∧ RAfter S w db (rsave p data s).2 w' := by
  have HR := Lib.hid (rright_ok p w (by omega))
  have HT : Hid (∀ u : World, Calls Try.prog 40 #[.string p] u fun e w' => e = .returned (.string (tmp p)) ∧ w' = u) := fun u => rtemp_ok p u (by omega)
  have hts : (tmp p).size ≤ 9223372036854775807 := by rw [tmp_size]; omega
  have hNM2 : (N + 2) * M ≤ 9223372036854775807 := Nat.le_trans (Nat.mul_le_mul_right _ (by omega)) hNM
  obtain ⟨A, c, rfl, hdl⟩ := hsrc.len
  unfold fptr
  cases hr : right p with
  | false =>
    have HE : rsave p data s = (1, s) := by simp [rsave, hr]
    rw [HE]
    rw [hr] at HR
    clear hr HE
    go_enter Try.func15, Try.ntmps15
    go_wp2_with (go_at_call 28; refine HR.out.mono ?_; rintro e w1 ⟨rfl, rfl⟩)
    go_ret
    exact ⟨rfl, RAfter.start h⟩
  | true =>
    rw [hr] at HR
    by_cases hbig : (1048576 : Int) < data.length
    · have HE : rsave p data s = (3, s) := by unfold rsave; rw [hr]; simp only [Bool.not_true, Bool.false_eq_true, if_false]; rw [if_pos hbig]
      rw [HE]
      clear hr HE
      go_enter Try.func15, Try.ntmps15
      go_wp2_with (go_at_call 28; refine HR.out.mono ?_; rintro e w1 ⟨rfl, rfl⟩)
      go_ret
      exact ⟨rfl, RAfter.start h⟩
    · have HSRC := Lib.hid hsrc
      have HOUT := Lib.hid hout
      have H0 := Lib.hid h
      have hn1 := rfit_create hfit (tmp p)
      obtain ⟨⟨e1, s1⟩, hr1⟩ : ∃ r, rcreate (tmp p) s = r := ⟨_, rfl⟩
      rw [hr1] at hn1
      have hn2 := rfit_write hn1 (tmp p) data
      obtain ⟨⟨e2, s2⟩, hr2⟩ : ∃ r, rwrite (tmp p) data s1 = r := ⟨_, rfl⟩
      rw [hr2] at hn2
      have hn3 := rfit_fsync hn2 (tmp p)
      obtain ⟨⟨e3, s3⟩, hr3⟩ : ∃ r, rfsync (tmp p) s2 = r := ⟨_, rfl⟩
      rw [hr3] at hn3
      have hn4 := rfit_rename hn3 (tmp p) p
      obtain ⟨⟨e4, s4⟩, hr4⟩ : ∃ r, rrename (tmp p) p s3 = r := ⟨_, rfl⟩
      rw [hr4] at hn4
      dsimp only at hn1 hn2 hn3 hn4
      have C1 : Hid (Calls Try.prog 23 #[.pointer (some ⟨db, 0, none⟩), .string (tmp p)] w fun e w' => e = .returned (.int .i64 e1) ∧ RAfter S w db s1 w') := by
        have k := rcreate_ok S db s (tmp p) w N M H0.out hts hfit (by omega)
        rw [hr1] at k
        exact k
      have C2 : Hid (∀ w1, RAfter S w db s1 w1 → Calls Try.prog 41 #[.pointer (some ⟨db, 0, none⟩), .string (tmp p), .slice A data.length c] w1 fun e w' => e = .returned (.int .i64 e2) ∧ RAfter S w db s2 w') := fun w1 h1 => by
        have k := rwrite_ok (Grow S w) db s1 (tmp p) data (.slice A data.length c) w1 (N + 2) M h1.1 hts (HSRC.out.touch HOUT.out h1.2) (HOUT.out.grow HSRC.out) hn1 (by omega) hNM2 hMd
        rw [hr2] at k
        exact k.mono fun e w' ⟨a, b⟩ => ⟨a, h1.trans b⟩
      have C3 : Hid (∀ w1, RAfter S w db s2 w1 → Calls Try.prog 42 #[.pointer (some ⟨db, 0, none⟩), .string (tmp p)] w1 fun e w' => e = .returned (.int .i64 e3) ∧ RAfter S w db s3 w') := fun w1 h1 => by
        have k := rfsync_ok (Grow S w) db s2 (tmp p) w1 (N + 2) (M + data.length) h1.1 hts hn2 (by omega)
        rw [hr3] at k
        exact k.mono fun e w' ⟨a, b⟩ => ⟨a, h1.trans b⟩
      have C4 : Hid (∀ w1, RAfter S w db s3 w1 → Calls Try.prog 43 #[.pointer (some ⟨db, 0, none⟩), .string (tmp p), .string p] w1 fun e w' => e = .returned (.int .i64 e4) ∧ RAfter S w db s4 w') := fun w1 h1 => by
        have k := rrename_ok (Grow S w) db s3 (tmp p) p w1 (N + 2) (M + data.length) h1.1 hts (by omega) hn3 (by omega)
        rw [hr4] at k
        exact k.mono fun e w' ⟨a, b⟩ => ⟨a, h1.trans b⟩
      have C5 : Hid (∀ w1, RAfter S w db s4 w1 → Calls Try.prog 45 #[.pointer (some ⟨db, 0, none⟩)] w1 fun e w' => e = .returned (.int .i64 (rdirsync s4).1) ∧ RAfter S w db (rdirsync s4).2 w') := fun w1 h1 =>
        (rdirsync_ok (Grow S w) db s4 w1 h1.1).mono fun e w' ⟨a, b⟩ => ⟨a, h1.trans b⟩
      have CR : Hid (∀ w1 t, RFit (N + 4) (M + data.length) t → RAfter S w db t w1 → Calls Try.prog 44 #[.pointer (some ⟨db, 0, none⟩), .string (tmp p)] w1 fun e w' => (∃ z, e = .returned (.int .i64 z)) ∧ RAfter S w db (rremove (tmp p) t).2 w') := fun w1 t ht h1 =>
        (rremove_ok (Grow S w) db t (tmp p) w1 (N + 4) (M + data.length) h1.1 hts ht (by omega)).mono fun e w' ⟨a, b⟩ => ⟨⟨_, a⟩, h1.trans b⟩
      clear h hsrc hout
      by_cases z1 : e1 = 0
      · subst z1
        by_cases z2 : e2 = 0
        · subst z2
          by_cases z3 : e3 = 0
          · subst z3
            by_cases z4 : e4 = 0
            · subst z4
              have HE : rsave p data s = rdirsync s4 := by
                unfold rsave
                rw [hr]
                simp only [Bool.not_true, Bool.false_eq_true, if_false]
                rw [if_neg hbig]
                simp only [hr1, hr2, hr3, hr4]
                rw [if_neg (by simp)]
                rw [if_neg (by simp)]
                rw [if_neg (by simp)]
                rw [if_neg (by simp)]
              rw [HE]
              clear hr HE hr1 hr2 hr3 hr4
              go_enter Try.func15, Try.ntmps15
              go_wp2_with (first | (go_at_call 28; refine HR.out.mono ?_; rintro e w0 ⟨rfl, rfl⟩) | (go_at_call 40; refine (HT.out _).mono ?_; rintro e w0 ⟨rfl, rfl⟩) | (go_at_call 23; refine C1.out.mono ?_; rintro e w1 ⟨rfl, a1⟩; have c2 := C2.out w1 a1) | (go_at_call 41; refine c2.mono ?_; rintro e w2 ⟨rfl, a2⟩; have c3 := C3.out w2 a2) | (go_at_call 42; refine c3.mono ?_; rintro e w3 ⟨rfl, a3⟩; have c4 := C4.out w3 a3) | (go_at_call 43; refine c4.mono ?_; rintro e w4 ⟨rfl, a4⟩; have c5 := C5.out w4 a4) | (go_at_call 45; refine c5.mono ?_; rintro e w5 ⟨rfl, a5⟩))
              go_ret
              exact ⟨rfl, a5⟩
            · have HE : rsave p data s = (e4, (rremove (tmp p) s4).2) := by
                unfold rsave
                rw [hr]
                simp only [Bool.not_true, Bool.false_eq_true, if_false]
                rw [if_neg hbig]
                simp only [hr1, hr2, hr3, hr4]
                rw [if_neg (by simp)]
                rw [if_neg (by simp)]
                rw [if_neg (by simp)]
                rw [if_pos z4]
              rw [HE]
              have b4 : (e4 != 0) = true := bne_iff_ne.2 z4
              have d4 : (e4 == 0) = false := beq_eq_false_iff_ne.2 z4
              clear hr HE hr1 hr2 hr3 hr4 z4
              go_enter Try.func15, Try.ntmps15
              go_wp2_with (first | (go_at_call 28; refine HR.out.mono ?_; rintro e w0 ⟨rfl, rfl⟩) | (go_at_call 40; refine (HT.out _).mono ?_; rintro e w0 ⟨rfl, rfl⟩) | (go_at_call 23; refine C1.out.mono ?_; rintro e w1 ⟨rfl, a1⟩; have c2 := C2.out w1 a1) | (go_at_call 41; refine c2.mono ?_; rintro e w2 ⟨rfl, a2⟩; have c3 := C3.out w2 a2) | (go_at_call 42; refine c3.mono ?_; rintro e w3 ⟨rfl, a3⟩; have c4 := C4.out w3 a3) | (go_at_call 43; refine c4.mono ?_; rintro e w4 ⟨rfl, a4⟩; have cr := CR.out w4 s4 (hn4.mono (by omega) (by omega)) a4) | (go_at_call 44; refine cr.mono ?_; rintro e w5 ⟨⟨z, rfl⟩, a5⟩))
              go_ret
              exact ⟨rfl, a5⟩
          · have HE : rsave p data s = (e3, (rremove (tmp p) s3).2) := by
              unfold rsave
              rw [hr]
              simp only [Bool.not_true, Bool.false_eq_true, if_false]
              rw [if_neg hbig]
              simp only [hr1, hr2, hr3, hr4]
              rw [if_neg (by simp)]
              rw [if_neg (by simp)]
              rw [if_pos z3]
            rw [HE]
            have b3 : (e3 != 0) = true := bne_iff_ne.2 z3
            have d3 : (e3 == 0) = false := beq_eq_false_iff_ne.2 z3
            clear hr HE hr1 hr2 hr3 hr4 z3
            go_enter Try.func15, Try.ntmps15
            go_wp2_with (first | (go_at_call 28; refine HR.out.mono ?_; rintro e w0 ⟨rfl, rfl⟩) | (go_at_call 40; refine (HT.out _).mono ?_; rintro e w0 ⟨rfl, rfl⟩) | (go_at_call 23; refine C1.out.mono ?_; rintro e w1 ⟨rfl, a1⟩; have c2 := C2.out w1 a1) | (go_at_call 41; refine c2.mono ?_; rintro e w2 ⟨rfl, a2⟩; have c3 := C3.out w2 a2) | (go_at_call 42; refine c3.mono ?_; rintro e w3 ⟨rfl, a3⟩; have cr := CR.out w3 s3 (hn3.mono (by omega) (by omega)) a3) | (go_at_call 44; refine cr.mono ?_; rintro e w5 ⟨⟨z, rfl⟩, a5⟩))
            go_ret
            exact ⟨rfl, a5⟩
        · have HE : rsave p data s = (e2, (rremove (tmp p) s2).2) := by
            unfold rsave
            rw [hr]
            simp only [Bool.not_true, Bool.false_eq_true, if_false]
            rw [if_neg hbig]
            simp only [hr1, hr2, hr3, hr4]
            rw [if_neg (by simp)]
            rw [if_pos z2]
          rw [HE]
          have b2 : (e2 != 0) = true := bne_iff_ne.2 z2
          have d2 : (e2 == 0) = false := beq_eq_false_iff_ne.2 z2
          clear hr HE hr1 hr2 hr3 hr4 z2
          go_enter Try.func15, Try.ntmps15
          go_wp2_with (first | (go_at_call 28; refine HR.out.mono ?_; rintro e w0 ⟨rfl, rfl⟩) | (go_at_call 40; refine (HT.out _).mono ?_; rintro e w0 ⟨rfl, rfl⟩) | (go_at_call 23; refine C1.out.mono ?_; rintro e w1 ⟨rfl, a1⟩; have c2 := C2.out w1 a1) | (go_at_call 41; refine c2.mono ?_; rintro e w2 ⟨rfl, a2⟩; have cr := CR.out w2 s2 (hn2.mono (by omega) (by omega)) a2) | (go_at_call 44; refine cr.mono ?_; rintro e w5 ⟨⟨z, rfl⟩, a5⟩))
          go_ret
          exact ⟨rfl, a5⟩
      · have HE : rsave p data s = (e1, (rremove (tmp p) s1).2) := by
          unfold rsave
          rw [hr]
          simp only [Bool.not_true, Bool.false_eq_true, if_false]
          rw [if_neg hbig]
          simp only [hr1, hr2, hr3, hr4]
          rw [if_pos z1]
        rw [HE]
        have b1 : (e1 != 0) = true := bne_iff_ne.2 z1
        have d1 : (e1 == 0) = false := beq_eq_false_iff_ne.2 z1
        clear hr HE hr1 hr2 hr3 hr4 z1
        go_enter Try.func15, Try.ntmps15
        go_wp2_with (first | (go_at_call 28; refine HR.out.mono ?_; rintro e w0 ⟨rfl, rfl⟩) | (go_at_call 40; refine (HT.out _).mono ?_; rintro e w0 ⟨rfl, rfl⟩) | (go_at_call 23; refine C1.out.mono ?_; rintro e w1 ⟨rfl, a1⟩; have cr := CR.out w1 s1 (hn1.mono (by omega) (by omega)) a1) | (go_at_call 44; refine cr.mono ?_; rintro e w5 ⟨⟨z, rfl⟩, a5⟩))
        go_ret
        exact ⟨rfl, a5⟩

theorem rlisted_in (s : RDk) (t : ByteArray) : rlisted s t = true ↔ t.data.toList ∈ rnames s := by
  unfold rlisted rnames
  cases s.down with
  | true => simp
  | false =>
    simp only [Bool.not_false, Bool.true_and, List.any_eq_true, Bool.false_eq_true, if_false, List.mem_map]
    constructor
    · rintro ⟨q, hq, e⟩
      rw [beq_bytes] at e
      exact ⟨q, hq, by rw [of_decide_eq_true e]⟩
    · rintro ⟨q, hq, e⟩
      exact ⟨q, hq, by rw [beq_bytes]; exact decide_eq_true (encStr_inj2 e)⟩

set_option maxRecDepth 100000 in
set_option maxHeartbeats 4000000 in
theorem rrecover_ok (S : Nat → Prop) (db : Nat) (s : RDk) (p : ByteArray) (w : World) (N M : Nat) (h : RDisk S w db s) (hp : p.size ≤ 70368744177664) (hfit : RFit N M s) (hN : N + 8 ≤ 549755813888) :
    Calls Try.prog 17 #[fptr db, .string p] w fun e w' => e = .returned (.int .i64 (rrecover p s).1) ∧ RAfter S w db (rrecover p s).2 w' := by
  have HR := Lib.hid (rright_ok p w (by omega))
  have HT : Hid (∀ u : World, Calls Try.prog 40 #[.string p] u fun e w' => e = .returned (.string (tmp p)) ∧ w' = u) := fun u => rtemp_ok p u (by omega)
  have hts : (tmp p).size ≤ 9223372036854775807 := by rw [tmp_size]; omega
  have HLI := Lib.hid (rlist_ok S db s w h (by have := hfit.nd; omega))
  unfold fptr at HLI ⊢
  cases hr : right p with
  | false =>
    have HE : rrecover p s = (1, s) := by simp [rrecover, hr]
    rw [HE]
    rw [hr] at HR
    clear hr HE
    go_enter Try.func17, Try.ntmps17
    go_wp2_with (go_at_call 28; refine HR.out.mono ?_; rintro e w1 ⟨rfl, rfl⟩)
    go_ret
    exact ⟨rfl, RAfter.start h⟩
  | true =>
    rw [hr] at HR
    have H0 := Lib.hid h
    cases hli : rlisted s (tmp p) with
    | false =>
      have HE : rrecover p s = (0, s) := by simp [rrecover, hr, hli]
      rw [HE]
      have HNO : Hid (∀ x ∈ rnames s, x ≠ (tmp p).data.toList) := fun x hx e => by
        have := (rlisted_in s (tmp p)).2 (by rw [← e]; exact hx)
        rw [hli] at this
        cases this
      clear hr HE hli h
      go_enter Try.func17, Try.ntmps17
      go_wp2_with (first | (go_at_call 28; refine HR.out.mono ?_; rintro e w1 ⟨rfl, rfl⟩) | (go_at_call 26; refine HLI.out.mono ?_; rintro e w2 ⟨v, rfl, hv, hb2⟩; obtain ⟨A, c, ev, hlv, hcv⟩ := StrRow.cells hv; subst ev; have HCV := Lib.hid hcv; clear hcv hv))
      go_loopw [6] (fun i wr => ∃ k : Nat, k ≤ (rnames s).length ∧ i = .int .i64 k ∧ Hid (∃ nq, wr = w2.drewN nq)) (fun i _ => (rnames s).length - (intOf i).toNat)
      case atStart => exact ⟨0, Nat.zero_le _, rfl, ⟨0, rfl⟩⟩
      case round =>
        obtain ⟨k, hk, rfl, HW⟩ := hrel
        by_cases hkl : k < (rnames s).length
        · obtain ⟨x, hx⟩ : ∃ x, (rnames s)[k]? = some x := ⟨_, List.getElem?_eq_getElem hkl⟩
          obtain ⟨g, rfl, z0⟩ := HCV.out k x hx
          have hne := HNO.out x (List.mem_of_getElem? hx)
          obtain ⟨u, hu⟩ : ∃ u : ByteArray, u = ⟨x.toArray⟩ := ⟨_, rfl⟩
          have z0' : wr.cell? ⟨g, k, none⟩ = some (.string u) := by
            obtain ⟨nq, e⟩ := HW.out
            rw [e]
            exact z0.trans (by rw [hu])
          have hut : u ≠ tmp p := fun e => hne (by rw [← e, hu])
          have hb : (u.toList == (tmp p).toList) = false := toList_ne hut
          have i1 : (0 : Int) ≤ (k : Int) := by omega
          have i2 : (k : Int) < ((rnames s).length : Int) := by omega
          clear hx z0 hne hu hut
          go_wp2_with fail
          go_quiet ((go_at_call 40; exact Calls.quiet_of_same (HT.out _)))
          go_wp2_with fail
          go_roundw
          case rel => exact ⟨k + 1, by omega, by go_num, drew3 HW.out _⟩
          case measure => simp [intOf]; omega
        · obtain rfl : k = (rnames s).length := by omega
          go_wp2_with fail
          go_ret
          obtain ⟨nq, e⟩ := HW.out
          rw [e]
          exact ⟨rfl, (H0.out.below hb2).keep (fun _ hs => .inl hs) (fun _ _ _ => rfl), (Touch.of_below hb2).drewN _⟩
    | true =>
      have HYES : Hid (∃ j : Nat, (rnames s)[j]? = some (tmp p).data.toList) := List.getElem?_of_mem ((rlisted_in s (tmp p)).1 hli)
      have HRM : Hid (∀ w1, RAfter S w db s w1 → Calls Try.prog 44 #[.pointer (some ⟨db, 0, none⟩), .string (tmp p)] w1 fun e w' => e = .returned (.int .i64 (rremove (tmp p) s).1) ∧ RAfter S w db (rremove (tmp p) s).2 w') := fun w1 h1 =>
        (rremove_ok (Grow S w) db s (tmp p) w1 N M h1.1 hts hfit (by omega)).mono fun e w' ⟨a, b⟩ => ⟨a, h1.trans b⟩
      by_cases hz : (rremove (tmp p) s).1 = 0
      · have HE : rrecover p s = rdirsync (rremove (tmp p) s).2 := by simp [rrecover, hr, hli, hz]
        rw [HE]
        rw [hz] at HRM
        have HDS : Hid (∀ w1, RAfter S w db (rremove (tmp p) s).2 w1 → Calls Try.prog 45 #[.pointer (some ⟨db, 0, none⟩)] w1 fun e w' => e = .returned (.int .i64 (rdirsync (rremove (tmp p) s).2).1) ∧ RAfter S w db (rdirsync (rremove (tmp p) s).2).2 w') := fun w1 h1 =>
          (rdirsync_ok (Grow S w) db _ w1 h1.1).mono fun e w' ⟨a, b⟩ => ⟨a, h1.trans b⟩
        clear hr HE hli h hz
        go_enter Try.func17, Try.ntmps17
        go_wp2_with (first | (go_at_call 28; refine HR.out.mono ?_; rintro e w1 ⟨rfl, rfl⟩) | (go_at_call 26; refine HLI.out.mono ?_; rintro e w2 ⟨v, rfl, hv, hb2⟩; obtain ⟨A, c, ev, hlv, hcv⟩ := StrRow.cells hv; subst ev; have HCV := Lib.hid hcv; clear hcv hv))
        go_loopw [6] (fun i wr => ∃ k : Nat, k ≤ (rnames s).length ∧ i = .int .i64 k ∧ Hid (∀ (j : Nat) (x : List UInt8), j < k → (rnames s)[j]? = some x → x ≠ (tmp p).data.toList) ∧ Hid (∃ nq, wr = w2.drewN nq)) (fun i _ => (rnames s).length - (intOf i).toNat)
        case atStart => exact ⟨0, Nat.zero_le _, rfl, fun j x hj => by omega, ⟨0, rfl⟩⟩
        case round =>
          obtain ⟨k, hk, rfl, HK, HW⟩ := hrel
          have hkl : k < (rnames s).length := by
            rcases Nat.lt_or_ge k (rnames s).length with hkl | hge
            · exact hkl
            · obtain ⟨j, hj⟩ := HYES.out
              exact absurd rfl (HK.out j _ (by have := (List.getElem?_eq_some_iff.1 hj).1; omega) hj)
          obtain ⟨x, hx⟩ : ∃ x, (rnames s)[k]? = some x := ⟨_, List.getElem?_eq_getElem hkl⟩
          obtain ⟨g, rfl, z0⟩ := HCV.out k x hx
          obtain ⟨u, hu⟩ : ∃ u : ByteArray, u = ⟨x.toArray⟩ := ⟨_, rfl⟩
          have z0' : wr.cell? ⟨g, k, none⟩ = some (.string u) := by
            obtain ⟨nq, e⟩ := HW.out
            rw [e]
            exact z0.trans (by rw [hu])
          have HU := Lib.hid hu
          have HX := Lib.hid hx
          have i1 : (0 : Int) ≤ (k : Int) := by omega
          have i2 : (k : Int) < ((rnames s).length : Int) := by omega
          clear hx z0 hu
          by_cases hut : u = tmp p
          · have hb : (u.toList == (tmp p).toList) = true := by simp [hut]
            clear hut
            go_wp2_with fail
            go_quiet ((go_at_call 40; exact Calls.quiet_of_same (HT.out _)))
            have ha2 : ∀ m, RAfter S w1 db s (wr.drewN m) := fun m => by
              obtain ⟨nq, e⟩ := HW.out
              rw [e]
              exact ⟨(H0.out.below hb2).keep (fun _ hs => .inl hs) (fun _ _ _ => rfl), ((Touch.of_below hb2).drewN _).drewN _⟩
            have HA2 := Lib.hid ha2
            clear ha2
            go_wp2_with (first | (go_at_call 40; refine (HT.out _).mono ?_; rintro e w0 ⟨rfl, rfl⟩) | (go_at_call 44; refine (HRM.out _ (HA2.out _)).mono ?_; rintro e w5 ⟨rfl, a5⟩; have hds := HDS.out w5 a5) | (go_at_call 45; refine hds.mono ?_; rintro e w6 ⟨rfl, a6⟩))
            go_ret
            exact ⟨rfl, a6⟩
          · have hb : (u.toList == (tmp p).toList) = false := toList_ne hut
            have HNE : Hid (x ≠ (tmp p).data.toList) := fun e => hut (by rw [HU.out, e])
            clear hut
            go_wp2_with fail
            go_quiet ((go_at_call 40; exact Calls.quiet_of_same (HT.out _)))
            go_wp2_with fail
            go_roundw
            case rel => exact ⟨k + 1, by omega, by go_num, fun j y hj hy => by
              by_cases e : j = k
              · subst e; have := HX.out; rw [hy] at this; cases this; exact HNE.out
              · exact HK.out j y (by omega) hy, drew3 HW.out _⟩
            case measure => simp [intOf]; omega
      · have HE : rrecover p s = rremove (tmp p) s := by simp [rrecover, hr, hli, hz]
        rw [HE]
        obtain ⟨⟨e1, s1⟩, hr1⟩ : ∃ r, rremove (tmp p) s = r := ⟨_, rfl⟩
        rw [hr1] at HRM hz ⊢
        dsimp only at HRM hz ⊢
        have b1 : (e1 != 0) = true := bne_iff_ne.2 hz
        clear hr HE hli h hz hr1
        go_enter Try.func17, Try.ntmps17
        go_wp2_with (first | (go_at_call 28; refine HR.out.mono ?_; rintro e w1 ⟨rfl, rfl⟩) | (go_at_call 26; refine HLI.out.mono ?_; rintro e w2 ⟨v, rfl, hv, hb2⟩; obtain ⟨A, c, ev, hlv, hcv⟩ := StrRow.cells hv; subst ev; have HCV := Lib.hid hcv; clear hcv hv))
        go_loopw [6] (fun i wr => ∃ k : Nat, k ≤ (rnames s).length ∧ i = .int .i64 k ∧ Hid (∀ (j : Nat) (x : List UInt8), j < k → (rnames s)[j]? = some x → x ≠ (tmp p).data.toList) ∧ Hid (∃ nq, wr = w2.drewN nq)) (fun i _ => (rnames s).length - (intOf i).toNat)
        case atStart => exact ⟨0, Nat.zero_le _, rfl, fun j x hj => by omega, ⟨0, rfl⟩⟩
        case round =>
          obtain ⟨k, hk, rfl, HK, HW⟩ := hrel
          have hkl : k < (rnames s).length := by
            rcases Nat.lt_or_ge k (rnames s).length with hkl | hge
            · exact hkl
            · obtain ⟨j, hj⟩ := HYES.out
              exact absurd rfl (HK.out j _ (by have := (List.getElem?_eq_some_iff.1 hj).1; omega) hj)
          obtain ⟨x, hx⟩ : ∃ x, (rnames s)[k]? = some x := ⟨_, List.getElem?_eq_getElem hkl⟩
          obtain ⟨g, rfl, z0⟩ := HCV.out k x hx
          obtain ⟨u, hu⟩ : ∃ u : ByteArray, u = ⟨x.toArray⟩ := ⟨_, rfl⟩
          have z0' : wr.cell? ⟨g, k, none⟩ = some (.string u) := by
            obtain ⟨nq, e⟩ := HW.out
            rw [e]
            exact z0.trans (by rw [hu])
          have HU := Lib.hid hu
          have HX := Lib.hid hx
          have i1 : (0 : Int) ≤ (k : Int) := by omega
          have i2 : (k : Int) < ((rnames s).length : Int) := by omega
          clear hx z0 hu
          by_cases hut : u = tmp p
          · have hb : (u.toList == (tmp p).toList) = true := by simp [hut]
            clear hut
            go_wp2_with fail
            go_quiet ((go_at_call 40; exact Calls.quiet_of_same (HT.out _)))
            have ha2 : ∀ m, RAfter S w1 db s (wr.drewN m) := fun m => by
              obtain ⟨nq, e⟩ := HW.out
              rw [e]
              exact ⟨(H0.out.below hb2).keep (fun _ hs => .inl hs) (fun _ _ _ => rfl), ((Touch.of_below hb2).drewN _).drewN _⟩
            have HA2 := Lib.hid ha2
            clear ha2
            go_wp2_with (first | (go_at_call 40; refine (HT.out _).mono ?_; rintro e w0 ⟨rfl, rfl⟩) | (go_at_call 44; refine (HRM.out _ (HA2.out _)).mono ?_; rintro e w5 ⟨rfl, a5⟩))
            go_ret
            exact ⟨rfl, a5⟩
          · have hb : (u.toList == (tmp p).toList) = false := toList_ne hut
            have HNE : Hid (x ≠ (tmp p).data.toList) := fun e => hut (by rw [HU.out, e])
            clear hut
            go_wp2_with fail
            go_quiet ((go_at_call 40; exact Calls.quiet_of_same (HT.out _)))
            go_wp2_with fail
            go_roundw
            case rel => exact ⟨k + 1, by omega, by go_num, fun j y hj hy => by
              by_cases e : j = k
              · subst e; have := HX.out; rw [hy] at this; cases this; exact HNE.out
              · exact HK.out j y (by omega) hy, drew3 HW.out _⟩
            case measure => simp [intOf]; omega
end Go.Proofs.Ythdncdhgnoggkaa
