/-
  The contract of a disk's Arm.
  Conditions: the disk lies in blocks of S; the faults can be read, and lie elsewhere.
-/
import Derived.Test.YthdncdhgnoggkaaPlan
import Derived.Maps.RangeRun
set_option linter.unusedSimpArgs false
set_option linter.unusedVariables false
namespace Go.Proofs.Ythdncdhgnoggkaa
open Go.RowKit

/-- What the faults come to, one by one. -/
def armGo : List (Int × Int) → IMap → Option IMap
  | [], m => some m
  | p :: r, m => if p.1 < 1 ∨ p.2 < 1 ∨ 3 < p.2 ∨ 0 < kindAt m p.1 then none else armGo r (putI m p.1 p.2)
/-- The plan pl is made of next, at so many steps. -/
def PlanIs (next : IMap) (steps : Int) (pl : IMap) : Prop :=
  (∀ p ∈ next, p.1 ≤ 4611686018427387904 - steps → findI pl (steps + p.1) = some p.2) ∧ (∀ n k, findI pl n = some k → ∃ p ∈ next, p.1 ≤ 4611686018427387904 - steps ∧ n = steps + p.1 ∧ k = p.2)
def ArmP (S : Nat → Prop) (w : World) (db : Nat) (s : Dk) (xs : List (Int × Int)) (e : Ending) (w' : World) : Prop :=
  Touch S w w' ∧ ((e = .returned (.int .i64 1) ∧ Disk (Grow S w) w' db s ∧ (armGo xs [] = none ∨ 64 < xs.length)) ∨ (e = .returned (.int .i64 0) ∧ ∃ m pl, armGo xs [] = some m ∧ xs.length ≤ 64 ∧ PlanIs m s.steps pl ∧ Disk (Grow S w) w' db { s with plan := pl }))

theorem armGo_step {xs : List (Int × Int)} {k : Nat} {p : Int × Int} {m : IMap} (h : xs[k]? = some p) : armGo (xs.drop k) m = if p.1 < 1 ∨ p.2 < 1 ∨ 3 < p.2 ∨ 0 < kindAt m p.1 then none else armGo (xs.drop (k + 1)) (putI m p.1 p.2) := by
  have hl := (List.getElem?_eq_some_iff.1 h).1
  have e : xs.drop k = p :: xs.drop (k + 1) := by
    rw [List.drop_eq_getElem_cons hl]
    have := (List.getElem?_eq_some_iff.1 h).2
    rw [this]
  rw [e]
  rfl

/-- The plan behind some of the rounds. -/
def SeenPlan (es : Array MapEntry) (seen : Array Nat) (steps : Int) (pl : IMap) : Prop :=
  (∀ e ∈ es.toList, seen.contains e.born = true → ∀ a k, e.key = .int .i64 a → e.val = .int .i64 k → a ≤ 4611686018427387904 - steps → findI pl (steps + a) = some k) ∧
  (∀ n k, findI pl n = some k → ∃ e ∈ es.toList, ∃ a, e.key = .int .i64 a ∧ e.val = .int .i64 k ∧ a ≤ 4611686018427387904 - steps ∧ n = steps + a)
theorem seenPlan_nil (es : Array MapEntry) (steps : Int) : SeenPlan es #[] steps [] := ⟨fun e _ h => by simp at h, fun n k h => by simp [findI] at h⟩
theorem findI_put (l : IMap) (n i x : Int) : findI (putI l n i) x = if x = n then some i else findI l x := by
  induction l with
  | nil =>
    simp only [putI, findI]
    by_cases h : n = x
    · simp [h]
    · have h' : ¬ x = n := fun e => h e.symm
      simp [h, h']
  | cons p l ih =>
    unfold putI
    by_cases hp : p.1 = n
    · rw [if_pos hp]
      simp only [findI, hp]
      by_cases h : n = x
      · simp [h]
      · have h' : ¬ x = n := fun e => h e.symm
        simp [h, h']
    · rw [if_neg hp]
      simp only [findI, ih]
      by_cases h : p.1 = x
      · simp [h, show ¬ x = n from fun e => hp (h.trans e)]
      · simp [h]

theorem nodup_index {α : Type} {l : List α} (h : l.Nodup) {i j : Nat} {x : α} (hi : l[i]? = some x) (hj : l[j]? = some x) : i = j :=
  (List.getElem?_inj (List.getElem?_eq_some_iff.1 hi).1 h).1 (hi.trans hj.symm)
theorem entry_same {es : Array MapEntry} {ck : Nat} (hst : MapKept.Stamped es ck) {x y : MapEntry} (hx : x ∈ es.toList) (hy : y ∈ es.toList) (h : x.born = y.born ∨ x.key = y.key) : x = y := by
  obtain ⟨i, hi⟩ := List.getElem?_of_mem hx
  obtain ⟨j, hj⟩ := List.getElem?_of_mem hy
  have hij : i = j := by
    rcases h with h | h
    · exact nodup_index (x := x.born) hst.2.1 (by simp only [List.getElem?_map, hi]; rfl) (by simp only [List.getElem?_map, hj, h]; rfl)
    · exact nodup_index (x := x.key) hst.2.2 (by simp only [List.getElem?_map, hi]; rfl) (by simp only [List.getElem?_map, hj, h]; rfl)
  subst hij
  rw [hi] at hj
  exact Option.some.inj hj
theorem seenPlan_put {es : Array MapEntry} {seen : Array Nat} {steps : Int} {pl : IMap} {ck : Nat} (h : SeenPlan es seen steps pl) {e : MapEntry} (he : e ∈ es.toList) {a k : Int} (hk : e.key = .int .i64 a) (hv : e.val = .int .i64 k) (ha : a ≤ 4611686018427387904 - steps) (hst : MapKept.Stamped es ck) :
    SeenPlan es (seen.push e.born) steps (putI pl (steps + a) k) := by
  refine ⟨fun e' he' hs a' k' hk' hv' ha' => ?_, fun n x hf => ?_⟩
  · rw [findI_put]
    by_cases hx : steps + a' = steps + a
    · rw [if_pos hx]
      have haa : a' = a := by omega
      subst haa
      have := entry_same hst he' he (.inr (hk'.trans hk.symm))
      subst this
      rw [hv] at hv'
      cases hv'
      rfl
    · rw [if_neg hx]
      rw [contains_push] at hs
      by_cases hb : e'.born = e.born
      · have := entry_same hst he' he (.inl hb)
        subst this
        rw [hk] at hk'
        cases hk'
        exact absurd rfl hx
      · have hs' : seen.contains e'.born = true := by simpa [hb] using hs
        exact h.1 e' he' hs' a' k' hk' hv' ha'
  · rw [findI_put] at hf
    by_cases hx : n = steps + a
    · rw [if_pos hx] at hf
      cases hf
      exact ⟨e, he, a, hk, hv, ha, hx⟩
    · rw [if_neg hx] at hf
      exact h.2 n x hf
theorem seenPlan_skip {es : Array MapEntry} {seen : Array Nat} {steps : Int} {pl : IMap} {ck : Nat} (h : SeenPlan es seen steps pl) {e : MapEntry} (he : e ∈ es.toList) {a : Int} (hk : e.key = .int .i64 a) (ha : ¬ a ≤ 4611686018427387904 - steps) (hst : MapKept.Stamped es ck) :
    SeenPlan es (seen.push e.born) steps pl := by
  refine ⟨fun e' he' hs a' k' hk' hv' ha' => ?_, h.2⟩
  rw [contains_push] at hs
  by_cases hb : e'.born = e.born
  · have := entry_same hst he' he (.inl hb)
    subst this
    rw [hk] at hk'
    cases hk'
    exact absurd ha' ha
  · have hs' : seen.contains e'.born = true := by simpa [hb] using hs
    exact h.1 e' he' hs' a' k' hk' hv' ha'
theorem planIs_of {es : Array MapEntry} {seen : Array Nat} {steps : Int} {pl m : IMap} (h : SeenPlan es seen steps pl) (hall : ∀ x ∈ es.toList, seen.contains x.born = true) (hem : es.toList.map (fun e => (e.key, e.val)) = m.map (fun p => ((.int .i64 p.1 : Value), (.int .i64 p.2 : Value)))) : PlanIs m steps pl := by
  refine ⟨fun p hp hle => ?_, fun n k hf => ?_⟩
  · have : ((.int .i64 p.1 : Value), (.int .i64 p.2 : Value)) ∈ es.toList.map (fun e => (e.key, e.val)) := by rw [hem]; exact List.mem_map.2 ⟨p, hp, rfl⟩
    obtain ⟨e, he, hee⟩ := List.mem_map.1 this
    simp only [Prod.mk.injEq] at hee
    exact h.1 e he (hall e he) p.1 p.2 hee.1 hee.2 hle
  · obtain ⟨e, he, a, hk, hv, ha, hn⟩ := h.2 n k hf
    have : (e.key, e.val) ∈ m.map (fun p => ((.int .i64 p.1 : Value), (.int .i64 p.2 : Value))) := by rw [← hem]; exact List.mem_map.2 ⟨e, he, rfl⟩
    obtain ⟨p, hp, hpe⟩ := List.mem_map.1 this
    rw [hk, hv] at hpe
    simp only [Prod.mk.injEq, Value.int.injEq, true_and] at hpe
    exact ⟨p, hp, by rw [hpe.1]; exact ha, by rw [hpe.1]; exact hn, hpe.2.symm⟩
theorem put_keys {m : IMap} {n i : Int} (h : ∀ p ∈ m, 1 ≤ p.1) (hn : 1 ≤ n) : ∀ p ∈ putI m n i, 1 ≤ p.1 := by
  induction m with
  | nil => intro p hp; simp [putI] at hp; subst hp; exact hn
  | cons q m ih =>
    intro p hp
    unfold putI at hp
    split at hp
    · rcases List.mem_cons.1 hp with rfl | hp
      · exact hn
      · exact h p (List.mem_cons_of_mem _ hp)
    · rcases List.mem_cons.1 hp with rfl | hp
      · exact h p (by simp)
      · exact ih (fun p hp => h p (List.mem_cons_of_mem _ hp)) p hp
theorem armGo_keys (xs : List (Int × Int)) : ∀ (m0 m : IMap), armGo xs m0 = some m → (∀ p ∈ m0, 1 ≤ p.1) → ∀ p ∈ m, 1 ≤ p.1 := by
  induction xs with
  | nil => intro m0 m h h0; cases h; exact h0
  | cons x xs ih =>
    intro m0 m h h0
    unfold armGo at h
    split at h
    · cases h
    · exact ih _ m h (put_keys h0 (by omega))
theorem DiskRep.planTurn {S S' : Nat → Prop} {w w' : World} {db : Nat} {s : Dk} {r : Rep} (h : DiskRep S w db s r) (hS : ∀ k, S k → S' k) (pb : Nat) (pl : IMap)
    (hk : ∀ k o, w.heap[k]? = some o → k ≠ db → w'.heap[k]? = some o) (hnew : w.heap.size ≤ pb) (hnS : S' pb) (hp : PlanAt w' pb (fun x => .int .i64 x) pl)
    (hb : w'.heap[db]? = some (.cells #[.int .i64 s.room, r.fv, .map (some r.dB), .map (some r.sB), r.pv, .map (some pb), .int .i64 s.steps, .bool s.down] 69 (0, 0))) :
    DiskRep S' w' db { s with plan := pl } { r with plan := some pb } := by
  have hk' : ∀ k o, w.heap[k]? = some o → et o ≠ some 69 → w'.heap[k]? = some o := fun k o ho h1 => hk k o ho (fun e => by
    rw [e, h.blk] at ho
    cases ho
    exact h1 rfl)
  have hm : ∀ {b : Nat} {es : Array MapEntry} {c : Nat}, w.heap[b]? = some (.map es c) → w'.heap[b]? = w.heap[b]? := fun hb => (hk' _ _ hb (by simp [et])).trans hb.symm
  have hlt1 := h.dir.lt
  have hlt2 := h.sdir.lt
  exact { sdb := hS _ h.sdb, blk := hb, fbl := h.fbl, fbn := h.fbn, rows := own_keep h.rows (fun k o ho _ he => hk' k o ho (by rw [he]; simp)), rowS := fun k e => hS _ (h.rowS k e),
          files := h.files.keep hS (fun k o ho _ he => hk' k o ho (by rcases he with he | he <;> rw [he] <;> simp)), sdB := hS _ h.sdB,
          dir := h.dir.of_heap (by obtain ⟨es, c, hh, _⟩ := h.dir; exact hm hh), ssB := hS _ h.ssB,
          sdir := h.sdir.of_heap (by obtain ⟨es, c, hh, _⟩ := h.sdir; exact hm hh), ne1 := h.ne1, pend := own_keep h.pend (fun k o ho _ he => hk' k o ho (by rw [he]; simp)), pendS := fun k e => hS _ (h.pendS k e),
          plan := ⟨hnS, hp⟩, ne2 := fun e => by have e' : pb = r.dB := Option.some.inj e; omega, ne3 := fun e => by have e' : pb = r.sB := Option.some.inj e; omega, inD := h.inD, inS := h.inS, inP := h.inP }

set_option maxRecDepth 100000 in
set_option maxHeartbeats 4000000 in
theorem arm_ok (S : Nat → Prop) (db : Nat) (s : Dk) (r : Rep) (A : Option Addr) (n c : Nat) (xs : List (Int × Int)) (w : World) (h : DiskRep S w db s r) (hx : FaultsAt w A xs) (hn : xs.length = n) (hl : n ≤ 4294967296)
    (hst : 0 ≤ s.steps ∧ s.steps ≤ 4611686018427387904) (hSlt : ∀ k, S k → k < w.heap.size) :
    Calls Try.prog 19 #[fptr db, .slice A n c] w (ArmP S w db s xs) := by
  have hmm := @run_makeMap Try.prog
  have HN := Lib.hid hn
  have HF := Lib.hid hx
  clear hn hx
  unfold fptr
  go_enter Try.func19, Try.ntmps19
  go_wp2_with fail
  go_loopw [7, 15] (fun _ i wr => ∃ k : Nat, k ≤ n ∧ i = .int .i64 k ∧ ∃ m, Hid (armGo (xs.drop k) m = armGo xs []) ∧ PlanAt wr w.heap.size (fun x => .int .i64 x) m ∧ Below w.heap.size w wr) (fun _ i _ => n - (intOf i).toNat)
  case atStart => exact ⟨0, Nat.zero_le _, rfl, [], rfl, PlanAt.made w _, (Below.refl _ _).alloc (Nat.le_refl _) _⟩
  case round =>
    obtain ⟨k, hk, rfl, m, hgo, hm, hb⟩ := hrel
    by_cases hkl : k < n
    · have hkx : k < xs.length := by have := HN.out; omega
      obtain ⟨b, o, rfl, hc⟩ := HF.out (by omega)
      obtain ⟨p, hp⟩ : ∃ p, xs[k]? = some p := ⟨_, List.getElem?_eq_getElem hkx⟩
      obtain ⟨c0, c1⟩ := hc k p hp
      have c0' := (hb.cell (World.block_lt_of_cell? _ _ c0)).trans c0
      have c1' := (hb.cell (World.block_lt_of_cell? _ _ c1)).trans c1
      rw [Nat.mul_comm 2 k] at c0' c1'
      have HP := Lib.hid hp
      have hsz := hb.size
      have hmz := hm.lt
      obtain ⟨⟨x0, x1⟩, xf, xl⟩ := cells2 (World.alloc_heap_new wr (.cells #[.int .i64 p.1, .int .i64 p.2] 95))
      have hlook := (hm.alloc (.cells #[.int .i64 p.1, .int .i64 p.2] 95)).lookup (P := Try.prog) Try.underlying67 Try.underlying3 (fun w => by kernel_rfl) p.1
      have hlook2 : (Instr.lookup 67 (.map (some w.heap.size)) (.int .i64 p.1) false).run Try.prog (wr.alloc (.cells #[.int .i64 p.1, .int .i64 p.2] 95)) = .ok (.int .i64 (kindAt m p.1)) (wr.alloc (.cells #[.int .i64 p.1, .int .i64 p.2] 95)) := by
        rw [hlook]
        unfold kindAt
        cases findI m p.1 <;> rfl
      obtain ⟨kd, hkd⟩ : ∃ kd, kd = kindAt m p.1 := ⟨_, rfl⟩
      rw [← hkd] at hlook2
      have HKD := Lib.hid hkd
      clear hc hp c0 c1 hlook hkd
      have hstep := armGo_step (m := m) HP.out
      have HSTEP := Lib.hid hstep
      clear hstep
      have hbad : p.1 < 1 ∨ p.2 < 1 ∨ 3 < p.2 ∨ 0 < kd → ∀ wz, Below w.heap.size w wz → ArmP S w db s xs (.returned (.int .i64 1)) wz := fun hc wz hbz => by
        refine ⟨Touch.of_below hbz, .inl ⟨rfl, ⟨r, (h.below hbz).keep (fun _ hs => .inl hs) (fun _ _ _ => rfl)⟩, .inl ?_⟩⟩
        rw [← hgo.out, HSTEP.out, ← HKD.out, if_pos hc]
      have HBAD := Lib.hid hbad
      clear hbad
      have hbx := hb.alloc hb.size (.cells #[.int .i64 p.1, .int .i64 p.2] 95)
      by_cases e1 : p.1 < 1
      · go_wp2
        go_ret
        exact HBAD.out (.inl e1) _ hbx
      · by_cases e2 : p.2 < 1
        · go_wp2
          go_ret
          exact HBAD.out (.inr (.inl e2)) _ hbx
        · by_cases e3 : 3 < p.2
          · go_wp2
            go_ret
            exact HBAD.out (.inr (.inr (.inl e3))) _ hbx
          · by_cases e4 : 0 < kd
            · go_wp2
              go_ret
              exact HBAD.out (.inr (.inr (.inr e4))) _ hbx
            · go_wp2_with (at_mapUpdate; refine wpList_update_plan rfl _ _ _ 67 3 3 rfl Try.underlying67 Try.underlying3 (hm.alloc _) rfl p.1 p.2 rfl rfl ?_; intro o2 hd2)
              go_roundw
              case rel =>
                refine ⟨k + 1, by omega, by go_num, _, ?_, hd2, ?_⟩
                · show Hid _
                  have := hgo.out
                  rw [HSTEP.out, if_neg (by rw [← HKD.out]; omega)] at this
                  exact this
                · exact below_setBlock hbx (Nat.le_refl _) o2
              case measure => simp [intOf]; omega
    · obtain rfl : k = n := by omega
      have hall : armGo xs [] = some m := by
        have h1 := hgo.out
        rw [← HN.out, List.drop_length] at h1
        exact h1.symm
      have HALL := Lib.hid hall
      have HKEYS := Lib.hid (armGo_keys xs [] m hall (fun p hp => by cases hp))
      clear hall hgo
      by_cases h64 : (64 : Int) < k
      · go_wp2
        go_ret
        exact ⟨Touch.of_below hb, .inl ⟨rfl, ⟨r, (h.below hb).keep (fun _ hs => .inl hs) (fun _ _ _ => rfl)⟩, .inr (by have := HN.out; omega)⟩⟩
      · obtain ⟨es, ck, hes, hstm, hem⟩ := hm
        have hr0 := h.below hb
        obtain ⟨⟨d0, d1, d2, d3, d4, d5, d6, d7⟩, hf', hlt'⟩ := cells8 hr0.blk
        obtain ⟨w1, rfl⟩ : ∃ w1 : World, w1 = wr := ⟨_, rfl⟩
        have hmz : w.heap.size < w1.heap.size := (Array.getElem?_eq_some_iff.1 hes).1
        have hdb := hSlt db h.sdb
        obtain ⟨W2, hW2⟩ : ∃ W2, (w1.setCell ⟨db, 5, none⟩ (.map (some w1.heap.size))).alloc (.map #[] 0) = W2 := ⟨_, rfl⟩
        have z2 : W2.heap.size = w1.heap.size + 1 := by rw [← hW2]; simp [World.setCell]
        have k2 : ∀ k o, w1.heap[k]? = some o → k ≠ db → W2.heap[k]? = some o := fun k o ho hk => by rw [← hW2]; exact alloc_heap ((Below.heap_setCell _ _ _ _ hk).trans ho) _
        have db2 : W2.heap[db]? = some (.cells #[.int .i64 s.room, r.fv, .map (some r.dB), .map (some r.sB), r.pv, .map (some w1.heap.size), .int .i64 s.steps, .bool s.down] 69 (0, 0)) := by
          rw [← hW2]
          refine alloc_heap ?_ _
          rw [heap_setCell8 hr0.blk 5 _]
          rfl
        have p2 : PlanAt W2 w1.heap.size (fun x => .int .i64 x) [] := by
          rw [← hW2]
          have := PlanAt.made (w1.setCell ⟨db, 5, none⟩ (.map (some w1.heap.size))) (fun x => .int .i64 x)
          rw [show (w1.setCell ⟨db, 5, none⟩ (.map (some w1.heap.size))).heap.size = w1.heap.size by simp [World.setCell]] at this
          exact this
        have t2 : Touch S w W2 := by rw [← hW2]; exact ((Touch.of_below hb).set1 db 5 (.inl h.sdb) _).alloc _
        have es2 := k2 _ _ hes (by omega)
        have hrg := run_range_map (P := Try.prog) W2 67 3 3 w.heap.size es ck Try.underlying67 es2
        rw [← hW2] at hrg
        have HW2 := Lib.hid hW2
        have HZ2 := Lib.hid z2
        have HDB2 := Lib.hid db2
        have HES2 := Lib.hid es2
        clear hW2 z2 db2 es2 hes
        go_wp2_with fail
        rw [HW2.out]
        have hkeep : ∀ k o, w.heap[k]? = some o → k ≠ db → W2.heap[k]? = some o := fun k o ho hk => k2 k o (below_heap hb ho) hk
        clear d0 d1 d2 d3 d4 d5 d6 d7 hf' hrg
        go_loopw [8] (fun _ wr => ∃ seen pl, wr.heap[w1.heap.size + 1]? = some (.mapIter (some w.heap.size) ck seen ck) ∧ Hid (SeenPlan es seen s.steps pl) ∧ PlanAt wr w1.heap.size (fun x => .int .i64 x) pl ∧ Hid (∀ k o, W2.heap[k]? = some o → k ≠ w1.heap.size → wr.heap[k]? = some o) ∧ Touch S w wr) (fun _ wr => (leftOf es (wr.iterSeen (w1.heap.size + 1))).size)
        case atStart => exact ⟨#[], [], by have := World.alloc_heap_new W2 (.mapIter (some w.heap.size) ck #[] ck); rwa [HZ2.out] at this, seenPlan_nil _ _, p2.alloc _, fun k o ho hk => alloc_heap ho _, t2.alloc _⟩
        case round =>
          obtain ⟨seen, pl, hit, hsp, hpl, hkp, ht⟩ := hrel
          obtain ⟨wl, rfl⟩ : ∃ wl : World, wl = wr := ⟨_, rfl⟩
          have hes' := hkp.out _ _ HES2.out (by omega)
          have hdb' := hkp.out _ _ HDB2.out (by omega)
          rcases run_next_at (P := Try.prog) wl 0 (w1.heap.size + 1) w.heap.size ck ck seen es ck hit hes' hstm.1 (Nat.le_refl _) with ⟨hz, hnx⟩ | ⟨e, he, wx, hwx, hnx⟩
          · have hall := all_seen es seen hz
            clear hz
            go_wp2
            go_ret
            refine ⟨ht, .inr ⟨rfl, m, pl, HALL.out, by have := HN.out; omega, planIs_of hsp.out hall hem, ⟨{ r with plan := some w1.heap.size }, h.planTurn (fun _ hs => .inl hs) w1.heap.size pl (fun k o ho hk => hkp.out k o (hkeep k o ho hk) (fun e => by have := (Array.getElem?_eq_some_iff.1 ho).1; have := hb.size; omega)) hb.size (.inr hb.size) hpl hdb'⟩⟩⟩
          · obtain ⟨he1, he2⟩ := mem_left he
            have hsz := (Array.getElem?_eq_some_iff.1 hit).1
            have hwx2 : wx.heap = wl.heap ∧ Touch S w wx := by
              rcases hwx with rfl | rfl
              · exact ⟨rfl, ht⟩
              · exact ⟨rfl, ht.drew⟩
            obtain ⟨W3, hW3⟩ : ∃ W3, Go.ChangeMaps.setBlock wx (w1.heap.size + 1) (.mapIter (some w.heap.size) ck (seen.push e.born) ck) = W3 := ⟨_, rfl⟩
            have h3 : ∀ k o, wl.heap[k]? = some o → k ≠ w1.heap.size + 1 → W3.heap[k]? = some o := fun k o ho hk => by
              rw [← hW3]
              show (wx.heap.setIfInBounds _ _)[k]? = _
              rw [Array.getElem?_setIfInBounds_ne (Ne.symm hk), hwx2.1]
              exact ho
            have h3t : Touch S w W3 := by
              rw [← hW3]
              exact hwx2.2.putObj (.inr (by have := hb.size; omega)) _
            have hit3 : W3.heap[w1.heap.size + 1]? = some (.mapIter (some w.heap.size) ck (seen.push e.born) ck) := by
              rw [← hW3]
              exact setBlock_heap (by rw [hwx2.1]; exact hsz)
            have hen := run_entry_at (P := Try.prog) W3 (w1.heap.size + 1) w.heap.size ck seen es ck e hit3 (h3 _ _ hes' (by omega)) he1 hstm.2.1
            rw [hW3] at hnx
            obtain ⟨⟨d0, d1, d2, d3, d4, d5, d6, d7⟩, hf', hlt3⟩ := cells8 (h3 _ _ hdb' (by omega))
            have hme : (e.key, e.val) ∈ m.map (fun p => ((.int .i64 p.1 : Value), (.int .i64 p.2 : Value))) := by rw [← hem]; exact List.mem_map.2 ⟨e, he1, rfl⟩
            obtain ⟨p, hpm, hpe⟩ := List.mem_map.1 hme
            simp only [Prod.mk.injEq] at hpe
            obtain ⟨hke, hve⟩ := hpe
            rw [← hke, ← hve] at hnx
            rw [← hke, ← hve] at hen
            have HKE := Lib.hid hke
            have HVE := Lib.hid hve
            have hpl3 : PlanAt W3 w1.heap.size (fun x => .int .i64 x) pl := by
              obtain ⟨es5, c5, hh5, q5⟩ := hpl
              exact ⟨es5, c5, h3 _ _ hh5 (by omega), q5⟩
            clear hke hve hW3
            have hsub : wrap64 (4611686018427387904 - s.steps) = 4611686018427387904 - s.steps := by unfold wrap64; omega
            by_cases hle : p.1 ≤ 4611686018427387904 - s.steps
            · obtain ⟨o4, hmu, hpl4⟩ := PlanAt.update (P := Try.prog) (T := 67) (K := 3) (E := 3) hpl3.drew Try.underlying67 Try.underlying3 (wrap64 (s.steps + p.1)) p.2
              go_wp2_with fail
              go_region
              all_goals
                go_wp2_with fail
                go_roundw
                case rel =>
                  have hw : wrap64 (s.steps + p.1) = s.steps + p.1 := by have := HKEYS.out p hpm; unfold wrap64; omega
                  rw [hw] at hpl4
                  refine ⟨seen.push e.born, _, (World.putObj_heap_other (by omega)).trans hit3, seenPlan_put hsp.out he1 HKE.out.symm HVE.out.symm hle hstm, hpl4, fun k o ho hk => ?_, (h3t.drew).putObj (.inr (by omega)) _⟩
                  have hkit : k ≠ w1.heap.size + 1 := fun e => by have := (Array.getElem?_eq_some_iff.1 ho).1; have := HZ2.out; omega
                  exact (World.putObj_heap_other hk).trans (h3 k o (hkp.out k o ho hk) hkit)
                case measure =>
                  have m1 : (W3.drew.putObj w1.heap.size o4).iterSeen (w1.heap.size + 1) = seen.push e.born := by
                    have : (W3.drew.putObj w1.heap.size o4).heap[w1.heap.size + 1]? = some (.mapIter (some w.heap.size) ck (seen.push e.born) ck) := (World.putObj_heap_other (by omega)).trans hit3
                    simp only [World.iterSeen, this]
                  have m2 : wl.iterSeen (w1.heap.size + 1) = seen := by simp [World.iterSeen, hit]
                  rw [m1, m2]
                  exact left_shrinks es seen e he
            · go_wp2
              go_roundw
              case rel =>
                refine ⟨seen.push e.born, pl, hit3, seenPlan_skip hsp.out he1 HKE.out.symm hle hstm, hpl3, fun k o ho hk => ?_, h3t⟩
                have hkit : k ≠ w1.heap.size + 1 := fun e => by have := (Array.getElem?_eq_some_iff.1 ho).1; have := HZ2.out; omega
                exact h3 k o (hkp.out k o ho hk) hkit
              case measure =>
                have m1 : W3.iterSeen (w1.heap.size + 1) = seen.push e.born := by simp [World.iterSeen, hit3]
                have m2 : wl.iterSeen (w1.heap.size + 1) = seen := by simp [World.iterSeen, hit]
                rw [m1, m2]
                exact left_shrinks es seen e he
end Go.Proofs.Ythdncdhgnoggkaa
