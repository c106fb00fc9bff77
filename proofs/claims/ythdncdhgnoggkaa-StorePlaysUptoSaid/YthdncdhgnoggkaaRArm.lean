/-
  The contracts of the reference's RightPlan, Arm.
  Conditions: the faults can be read.
-/
import Derived.Test.YthdncdhgnoggkaaRBytes
set_option linter.unusedSimpArgs false
set_option linter.unusedVariables false
namespace Go.Proofs.Ythdncdhgnoggkaa
open Go.RowKit

def okFault (p : Int × Int) : Prop := 1 ≤ p.1 ∧ 1 ≤ p.2 ∧ p.2 ≤ 3
theorem rightPlan_long {xs : List (Int × Int)} (h : 64 < xs.length) : rightPlan xs = false := by
  unfold rightPlan
  rw [decide_eq_false (by omega)]
  rfl
theorem rightPlan_bad {xs : List (Int × Int)} {j : Nat} {p : Int × Int} (h : xs[j]? = some p) (hp : ¬ okFault p) : rightPlan xs = false := by
  unfold rightPlan
  have : xs.all (fun p => decide (1 ≤ p.1 ∧ 1 ≤ p.2 ∧ p.2 ≤ 3)) = false := by
    rw [List.all_eq_false]
    exact ⟨p, List.mem_of_getElem? h, by simpa [okFault] using hp⟩
  rw [this]
  simp
theorem rightPlan_twice {xs : List (Int × Int)} {m j : Nat} {q p : Int × Int} (hm : xs[m]? = some q) (hj : xs[j]? = some p) (hl : m < j) (he : q.1 = p.1) : rightPlan xs = false := by
  unfold rightPlan
  have : ¬ (xs.map (·.1)).Nodup := by
    intro hn
    unfold List.Nodup at hn
    rw [List.pairwise_iff_getElem] at hn
    have hlj := (List.getElem?_eq_some_iff.1 hj)
    have hlm := (List.getElem?_eq_some_iff.1 hm)
    obtain ⟨a1, a2⟩ := hlj
    obtain ⟨b1, b2⟩ := hlm
    have := hn m j (by simpa using b1) (by simpa using a1) hl
    simp [a2, b2] at this
    exact this he
  rw [decide_eq_false this]
  simp
theorem rightPlan_good {xs : List (Int × Int)} (h0 : xs.length ≤ 64) (h : ∀ (j : Nat) (p : Int × Int), xs[j]? = some p → okFault p ∧ ∀ (m : Nat) (q : Int × Int), m < j → xs[m]? = some q → q.1 ≠ p.1) : rightPlan xs = true := by
  unfold rightPlan
  have h1 : xs.all (fun p => decide (1 ≤ p.1 ∧ 1 ≤ p.2 ∧ p.2 ≤ 3)) = true := by
    rw [List.all_eq_true]
    intro p hp
    obtain ⟨j, hj⟩ := List.getElem?_of_mem hp
    exact decide_eq_true (h j p hj).1
  have h2 : (xs.map (·.1)).Nodup := by
    unfold List.Nodup
    rw [List.pairwise_iff_getElem]
    intro i j hi hj hij
    have hi' : i < xs.length := by simpa using hi
    have hj' : j < xs.length := by simpa using hj
    have := (h j _ (List.getElem?_eq_getElem hj')).2 i _ hij (List.getElem?_eq_getElem hi')
    simpa using this
  rw [decide_eq_true h0, h1, decide_eq_true h2]
  rfl

theorem drew2 (w : World) (a b : Nat) : ∃ m, (w.drewN a).drewN b = w.drewN m := ⟨_, World.drewN_drewN ..⟩
set_option maxRecDepth 100000 in
set_option maxHeartbeats 4000000 in
theorem rightPlan_ok (A : Option Addr) (n c : Nat) (xs : List (Int × Int)) (w : World) (h : FaultsAt w A xs) (hn : xs.length = n) (hl : n ≤ 4294967296) :
    Calls Try.prog 48 #[.slice A n c] w fun e w' => e = .returned (.bool (rightPlan xs)) ∧ ∃ m, w' = w.drewN m := by
  obtain ⟨d, hd⟩ : ∃ d, rightPlan xs = d := ⟨_, rfl⟩
  by_cases h64 : 64 < n
  · rw [rightPlan_long (by omega)]
    clear hd
    go_enter Try.func48, Try.ntmps48
    go_wp2
    go_ret
    exact ⟨rfl, 0, rfl⟩
  · have HD := Lib.hid hd
    have HN := Lib.hid hn
    have HF := Lib.hid h
    rw [hd]
    clear hd hn h
    go_enter Try.func48, Try.ntmps48
    go_wp2_with fail
    go_loopw [3, 4] (fun i _ wr => ∃ k : Nat, k ≤ n ∧ i = .int .i64 k ∧ Hid (∀ (j : Nat) (p : Int × Int), j < k → xs[j]? = some p → okFault p ∧ ∀ (m : Nat) (q : Int × Int), m < j → xs[m]? = some q → q.1 ≠ p.1) ∧ ∃ nq, wr = w.drewN nq) (fun i _ _ => n - (intOf i).toNat)
    case atStart => exact ⟨0, Nat.zero_le _, rfl, fun j p hj => by omega, 0, rfl⟩
    case round =>
      obtain ⟨k, hk, rfl, HK, nq, rfl⟩ := hrel
      by_cases hkl : k < n
      · obtain ⟨b, o, rfl, hc⟩ := HF.out (by have := HN.out; omega)
        obtain ⟨p, hp⟩ : ∃ p, xs[k]? = some p := ⟨_, List.getElem?_eq_getElem (by have := HN.out; omega)⟩
        obtain ⟨c0, c1⟩ := hc k p hp
        rw [Nat.mul_comm 2 k] at c0 c1
        have HC := Lib.hid hc
        have HP := Lib.hid hp
        have i1 : (0 : Int) ≤ (k : Int) := by omega
        have i2 : (k : Int) < (n : Int) := by omega
        clear hc hp
        by_cases e1 : p.1 < 1
        · have HF2 : Hid (d = false) := HD.out.symm.trans (rightPlan_bad HP.out (by unfold okFault; omega))
          go_wp2_with fail
          go_ret
          exact ⟨ret_bool HF2.out.symm, _, rfl⟩
        · by_cases e2 : p.2 < 1
          · have HF2 : Hid (d = false) := HD.out.symm.trans (rightPlan_bad HP.out (by unfold okFault; omega))
            go_wp2_with fail
            go_ret
            exact ⟨ret_bool HF2.out.symm, _, rfl⟩
          · by_cases e3 : 3 < p.2
            · have HF2 : Hid (d = false) := HD.out.symm.trans (rightPlan_bad HP.out (by unfold okFault; omega))
              go_wp2_with fail
              go_ret
              exact ⟨ret_bool HF2.out.symm, _, rfl⟩
            · have HOK : Hid (okFault p) := by show okFault p; unfold okFault; omega
              go_wp2_with fail
              go_loopw [4] (fun i wr => ∃ m : Nat, m ≤ k ∧ i = .int .i64 m ∧ Hid (∀ (j : Nat) (q : Int × Int), j < m → xs[j]? = some q → q.1 ≠ p.1) ∧ ∃ nq, wr = w.drewN nq) (fun i _ => k - (intOf i).toNat)
              case atStart => exact ⟨0, Nat.zero_le _, rfl, fun j p hj => by omega, nq, rfl⟩
              case round =>
                obtain ⟨m, hm, rfl, HM, nq2, rfl⟩ := hrel
                by_cases hml : m < k
                · obtain ⟨q, hq⟩ : ∃ q, xs[m]? = some q := ⟨_, List.getElem?_eq_getElem (by have := HN.out; omega)⟩
                  obtain ⟨d0, d1⟩ := HC.out m q hq
                  rw [Nat.mul_comm 2 m] at d0 d1
                  have HQ := Lib.hid hq
                  have m1 : (0 : Int) ≤ (m : Int) := by omega
                  have m2 : (m : Int) < (n : Int) := by omega
                  clear hq
                  by_cases he : q.1 = p.1
                  · have HF2 : Hid (d = false) := HD.out.symm.trans (rightPlan_twice HQ.out HP.out hml he)
                    have hb : (q.1 == p.1) = true := by simpa using he
                    clear he
                    go_wp2_with fail
                    go_quiet (fail)
                    go_wp2_with fail
                    go_ret
                    exact ⟨ret_bool HF2.out.symm, drew2 _ _ _⟩
                  · have hb : (q.1 == p.1) = false := by simpa using he
                    have HE := Lib.hid he
                    clear he
                    go_wp2_with fail
                    go_quiet (fail)
                    go_wp2_with fail
                    go_roundw
                    case rel => exact ⟨m + 1, by omega, by go_num, fun j y hj hy => by
                      by_cases e : j = m
                      · subst e; have := HQ.out; rw [hy] at this; cases this; exact HE.out
                      · exact HM.out j y (by omega) hy, _, rfl⟩
                    case measure => simp [intOf]; omega
                · obtain rfl : m = k := by omega
                  go_wp2_with fail
                  go_roundw
                  case rel => exact ⟨m + 1, by omega, by go_num, fun j y hj hy => by
                    by_cases e : j = m
                    · subst e
                      have := HP.out
                      rw [hy] at this
                      cases this
                      exact ⟨HOK.out, fun i q hi hq => HM.out i q hi hq⟩
                    · exact HK.out j y (by omega) hy, _, rfl⟩
                  case measure => simp [intOf]; omega
      · obtain rfl : k = n := by omega
        have HT : Hid (d = true) := HD.out.symm.trans (rightPlan_good (by have := HN.out; omega) (fun j p hj => HK.out j p (by have := (List.getElem?_eq_some_iff.1 hj).1; have := HN.out; omega) hj))
        go_wp2_with fail
        go_ret
        exact ⟨ret_bool HT.out.symm, _, rfl⟩

theorem info96 : (Try.prog.info? 96).map (fun i => (i.zero, i.size, i.bytes)) = some (some (.agg #[.int .i64 0, .int .i64 0]), 2, 16) := by kernel_rfl
theorem flat2_ints (xs : List (Int × Int)) : flat2 (xs.map intP) = faultCells xs := by
  unfold flat2 faultCells
  rw [List.flatMap_map]
  rfl
theorem faultCells_one (xs : List (Int × Int)) : ∀ u ∈ faultCells xs, u.oneCell' = true := by
  intro u hu
  unfold faultCells at hu
  obtain ⟨p, _, h⟩ := List.mem_flatMap.1 hu
  rcases List.mem_cons.1 h with rfl | h
  · rfl
  · rw [List.mem_singleton.1 h]; rfl
theorem faultCells_at (xs : List (Int × Int)) (j : Nat) (u : Value) (h : (faultCells xs)[j]? = some u) : ∃ p, xs[j / 2]? = some p ∧ u = if j % 2 = 0 then .int .i64 p.1 else .int .i64 p.2 := by
  have hl : j < (faultCells xs).length := (List.getElem?_eq_some_iff.1 h).1
  have hlen : (faultCells xs).length = xs.length * 2 := by rw [← flat2_ints, flat2_length, List.length_map]
  obtain ⟨p, hp⟩ : ∃ p, xs[j / 2]? = some p := ⟨_, List.getElem?_eq_getElem (by omega)⟩
  have h2 := flat2_at (xs.map intP) (j / 2) (intP p) (by rw [List.getElem?_map, hp]; rfl)
  rw [flat2_ints] at h2
  refine ⟨p, hp, ?_⟩
  by_cases hj : j % 2 = 0
  · rw [if_pos hj]
    have e : j / 2 * 2 = j := by omega
    rw [e, h] at h2
    exact Option.some.inj h2.1
  · rw [if_neg hj]
    have e : j / 2 * 2 + 1 = j := by omega
    rw [e, h] at h2
    exact Option.some.inj h2.2

set_option maxRecDepth 100000 in
set_option maxHeartbeats 4000000 in
theorem rarm_ok (S : Nat → Prop) (db : Nat) (s : RDk) (A : Option Addr) (n c : Nat) (xs : List (Int × Int)) (w : World) (h : RDisk S w db s) (hx : FaultsAt w A xs) (hn : xs.length = n) (hl : n ≤ 4294967296) (hA : A = none → c = 0) :
    Calls Try.prog 21 #[fptr db, .slice A n c] w fun e w' => e = .returned (.int .i64 (rarm xs s).1) ∧ RAfter S w db (rarm xs s).2 w' := by
  have HRP := Lib.hid (rightPlan_ok A n c xs w hx hn hl)
  unfold fptr
  cases hr : rightPlan xs with
  | false =>
    have HE : rarm xs s = (1, s) := by simp [rarm, hr]
    rw [HE]
    rw [hr] at HRP
    clear hr HE
    go_enter Try.func21, Try.ntmps21
    go_wp2_with (go_at_call 48; refine HRP.out.mono ?_; rintro e w1 ⟨rfl, m, hw⟩; have HW := Lib.hid hw; clear hw)
    go_ret
    rw [HW.out]
    exact ⟨rfl, h.keep (fun _ hs => .inl hs) (fun _ _ _ => rfl), (Touch.refl _ _).drewN _⟩
  | true =>
    have HE : rarm xs s = (0, { s with plan := xs, src := s.n }) := by simp [rarm, hr]
    rw [HE]
    rw [hr] at HRP
    obtain ⟨r, h⟩ := h
    obtain ⟨⟨c0, c1, c2, c3, c4, c5, c6, c7, c8⟩, cf, clt⟩ := cells9 h.blk
    have H0 := Lib.hid h
    have HX := Lib.hid hx
    have HN := Lib.hid hn
    obtain ⟨i0, hi, hz0, hz1, hz2⟩ := info_parts info96
    have HI := Lib.hid hi
    clear hr HE h hx hi
    have hsz := fun m => (⟨rfl, rfl, rfl, Nat.le_refl _, fun _ _ => rfl⟩ : Below w.heap.size w (w.drewN m))
    have HSZ := Lib.hid hsz
    clear hsz
    have HNEWS : Hid (∀ w1 : World, Below w.heap.size w w1 → ∀ a, A = some a → ∀ (j : Nat) (u : Value), (faultCells xs)[j]? = some u → w1.cell? (a.add j) = some u) := fun w1 hb a ha j u hu => by
      obtain ⟨p, hp, e⟩ := faultCells_at xs j u hu
      obtain ⟨b, o, ha2, hc⟩ := HX.out (by have := (List.getElem?_eq_some_iff.1 hp).1; omega)
      rw [ha] at ha2
      cases ha2
      obtain ⟨h0, h1⟩ := hc _ p hp
      have e0 := (hb.cell (World.block_lt_of_cell? _ _ h0)).trans h0
      have e1 := (hb.cell (World.block_lt_of_cell? _ _ h1)).trans h1
      have hadd : (⟨b, o, none⟩ : Addr).add j = ⟨b, o + j, none⟩ := by unfold Addr.add; split <;> simp_all
      rw [hadd]
      by_cases hj : j % 2 = 0
      · rw [if_pos hj] at e
        rw [e, show o + j = o + 2 * (j / 2) by omega]
        exact e0
      · rw [if_neg hj] at e
        rw [e, show o + j = o + 2 * (j / 2) + 1 by omega]
        exact e1
    have hsd := Lib.hid H0.out.sdb
    have HFIN : Hid (∀ (w1 w2 : World) (v : Value), Below w.heap.size w w1 → Below w1.heap.size w1 w2 → PairsIn (fun k => w1.heap.size ≤ k) w2 96 v (xs.map intP) →
        RAfter S w db { s with plan := xs, src := s.n } ((w2.setCell ⟨db, 5, none⟩ v).setCell ⟨db, 6, none⟩ (.int .i64 s.n))) := fun w1 w2 v hb1 hb2 hv => by
      have hb : Below w.heap.size w w2 := hb1.trans (hb2.mono hb1.size)
      have h2 := H0.out.below hb
      have hk1 : ∀ k o, w2.heap[k]? = some o → et o ≠ some 56 → ((w2.setCell ⟨db, 5, none⟩ v).setCell ⟨db, 6, none⟩ (.int .i64 s.n)).heap[k]? = some o := fun k o ho he => by
        have hne : k ≠ db := fun e => by
          subst e
          rw [h2.blk] at ho
          cases ho
          exact he rfl
        rw [Below.heap_setCell _ _ _ _ (by exact hne), Below.heap_setCell _ _ _ _ (by exact hne)]
        exact ho
      have hk2 : ∀ k o, w2.heap[k]? = some o → S k → Still o → ((w2.setCell ⟨db, 5, none⟩ v).setCell ⟨db, 6, none⟩ (.int .i64 s.n)).heap[k]? = some o := fun k o ho _ hs => hk1 k o ho (by rcases hs with e | e | e <;> rw [e] <;> simp)
      refine ⟨⟨{ r with pv := v }, ?_⟩, ((Touch.of_below hb).set1 db 5 (.inl hsd.out) _).set1 db 6 (.inl hsd.out) _⟩
      exact { sdb := .inl h2.sdb, blk := by rw [heap_setCell8 (heap_setCell8 h2.blk 5 _) 6 _]; rfl, rows := own_keep h2.rows (fun k o ho _ he => hk1 k o ho (by rw [he]; simp)), rowS := fun k e => .inl (h2.rowS k e), files := h2.filesK (fun _ hs => .inl hs) hk2,
              dir := h2.dir.keepS (fun _ hs => .inl hs) hk2, sdir := h2.sdir.keepS (fun _ hs => .inl hs) hk2, wait := own_keep h2.wait (fun k o ho _ he => hk1 k o ho (by rw [he]; simp)), waitS := fun k e => .inl (h2.waitS k e), waits := h2.waitsK (fun _ hs => .inl hs) hk2,
              plan := PairsIn.keep hv (fun k hk => .inr (Nat.le_trans hb1.size hk)) (fun k o ho _ he => hk1 k o ho (by rw [he]; simp)), inD := h2.inD, inS := h2.inS, inW := h2.inW }
    have HFL := Lib.hid (show (faultCells xs).length = n * 2 by rw [← flat2_ints, flat2_length, List.length_map, hn])
    have HN2 := Lib.hid hn
    clear hn
    cases A with
    | none =>
      obtain rfl : c = 0 := hA rfl
      have hn0 : n = 0 := by
        rcases Nat.eq_zero_or_pos n with h0 | h0
        · exact h0
        · obtain ⟨b, o, e, _⟩ := HX.out (by have := HN2.out; omega)
          cases e
      subst hn0
      go_enter Try.func21, Try.ntmps21
      go_wp2_with (first | (go_at_call 48; refine HRP.out.mono ?_; rintro e w1 ⟨rfl, m, hw⟩; have hb1 : Below w.heap.size w w1 := (by rw [hw]; exact HSZ.out m); clear hw; have hblk1 := below_heap hb1 H0.out.blk; obtain ⟨⟨z0, z1, z2, z3, z4, z5, z6, z7, z8⟩, zf, zlt⟩ := cells9 (below_heap ((Below.refl _ w1).alloc (Nat.le_refl _) (.cells #[] 96)) hblk1)))
      go_ret
      have hx0 : xs = [] := List.eq_nil_of_length_eq_zero HN2.out
      exact ⟨rfl, HFIN.out w1 _ _ hb1 ((Below.refl _ w1).alloc (Nat.le_refl _) _) (by rw [hx0]; exact ⟨_, 0, rfl, Nat.le_refl _, by simp, fun h => by simp at h⟩)⟩
    | some a =>
      have hown : ∀ w1 : World, (w1.alloc (.cells #[] 96)).ownsRow w1.heap.size 96 2 (.slice (some ⟨w1.heap.size, 0, none⟩) 0 0) 0 [] := fun w1 => ⟨rfl, .inr ⟨w1.heap.size, 0, #[], rfl, Nat.le_refl _, World.alloc_heap_new w1 _, Nat.le_refl _, by unfold maxLen; omega, rfl, rfl⟩⟩
      have HOWN := Lib.hid hown
      clear hown
      go_enter Try.func21, Try.ntmps21
      go_wp2_with (first | (go_at_call 48; refine HRP.out.mono ?_; rintro e w1 ⟨rfl, m, hw⟩; have hb1 : Below w.heap.size w w1 := (by rw [hw]; exact HSZ.out m); clear hw; have hB := (Below.refl _ w1).alloc (Nat.le_refl _) (.cells #[] 96)) | (at_builtin; refine wpList_append_own_at _ rfl _ _ 41 rfl w1.heap.size 96 i0 _ 2 16 Try.underlying41 HI.out hz0 hz1 hz2 rfl (by decide) (.slice (some ⟨w1.heap.size, 0, none⟩) 0 0) 0 [] rfl (HOWN.out w1) a n c (faultCells xs) rfl HFL.out (HNEWS.out _ (hb1.trans (hB.mono hb1.size)) a rfl) (faultCells_one xs) (by unfold maxLen; omega) (by omega) (by simp) ?_; intro v2 w2 hown2 hg2 _ hat2; obtain ⟨A2, cp2, ev2⟩ := own_slice hown2; subst ev2; have hb2 : Below w1.heap.size w1 w2 := hB.grown hg2 (by simp) (fun k e => Nat.le_of_eq (by simpa [Value.ownBlock] using e)); have HO2 := Lib.hid hown2; clear hown2; obtain ⟨⟨z0, z1, z2, z3, z4, z5, z6, z7, z8⟩, zf, zlt⟩ := cells9 (below_heap hb2 (below_heap hb1 H0.out.blk))))
      go_ret
      exact ⟨rfl, HFIN.out w1 _ _ hb1 hb2 (own_pairs (n := n) (by have := HO2.out; rw [flat2_ints]; rw [Nat.zero_add, List.nil_append] at this; exact this) (by rw [List.length_map, HN2.out]; omega))⟩
end Go.Proofs.Ythdncdhgnoggkaa
