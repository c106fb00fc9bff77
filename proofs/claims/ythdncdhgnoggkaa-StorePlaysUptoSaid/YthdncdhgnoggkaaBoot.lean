/-
  The contract of a disk's Boot.
  Conditions: the disk lies in blocks of S; what is kept is a list of whole numbers outside of S.
-/
import Derived.Test.YthdncdhgnoggkaaWrite
import Derived.Deep.DeepCutAuto
import Derived.BigRegion
set_option linter.unusedSimpArgs false
set_option linter.unusedVariables false
namespace Go.Proofs.Ythdncdhgnoggkaa
open Go.RowKit

/-- A list of whole numbers that is read. -/
def IntsAt (w : World) (A : Option Addr) (n : Nat) (xs : List Int) : Prop :=
  xs.length = n ∧ n ≤ 9223372036854775807 ∧ (0 < n → ∃ b o, A = some ⟨b, o, none⟩ ∧ ∀ j, j < n → w.cell? ⟨b, o + j, none⟩ = some (.int .i64 (xs.getD j 0)))

theorem pend_form {S : Nat → Prop} {w : World} {db : Nat} {s : Dk} {r : Rep} (h : DiskRep S w db s r) : (r.pv = .slice none 0 0 ∧ s.pend = []) ∨ ∃ g cap, r.pv = .slice (some ⟨g, 0, none⟩) s.pend.length cap ∧ s.pend.length ≤ cap ∧ cap ≤ maxLen ∧
    ∃ cur, w.heap[g]? = some (.cells cur 75 (0, 0)) ∧ ∀ (j : Nat) (e : Ent), s.pend[j]? = some e → cur[3 * j]? = some (.string e.gone) ∧ cur[3 * j + 1]? = some (.string e.name) ∧ cur[3 * j + 2]? = some (e.f.elim (.pointer none) (ofFile r.fb)) := by
  rcases h.pend.2 with ⟨e, hn⟩ | ⟨g, cap, cur, e, _, hh, h1, h2, h3, h4⟩
  · exact .inl ⟨e, List.eq_nil_of_length_eq_zero hn⟩
  · refine .inr ⟨g, cap, e, h1, h2, cur, hh, fun j en hj => ?_⟩
    have hjl := (List.getElem?_eq_some_iff.1 hj).1
    have key : ∀ (l : List Ent) (j : Nat), l[j]? = some en → ∀ q, q < 3 → (l.flatMap (entCells r.fb))[3 * j + q]? = (entCells r.fb en)[q]? := by
      intro l
      induction l with
      | nil => intro j hj; simp at hj
      | cons x l ih =>
        intro j hj q hq
        have hl : (entCells r.fb x).length = 3 := rfl
        cases j with
        | zero =>
          simp at hj
          subst hj
          rw [List.flatMap_cons, List.getElem?_append_left (by omega)]
          simp
        | succ j =>
          rw [List.flatMap_cons, List.getElem?_append_right (by omega), hl, show 3 * (j + 1) + q - 3 = 3 * j + q by omega]
          exact ih j (by simpa using hj) q hq
    have hc : ∀ q, q < 3 → cur[3 * j + q]? = (entCells r.fb en)[q]? := fun q hq => by
      rw [← key s.pend j hj q hq, ← h4, List.getElem?_take, if_pos (by omega), Array.getElem?_toList]
    exact ⟨hc 0 (by omega), hc 1 (by omega), hc 2 (by omega)⟩

theorem files_form {S : Nat → Prop} {w : World} {db : Nat} {s : Dk} {r : Rep} (h : DiskRep S w db s r) : ∃ A c, r.fv = .slice A s.files.length c ∧ s.files.length ≤ 9223372036854775807 ∧ (0 < s.files.length → ∃ g, A = some ⟨g, 0, none⟩ ∧ r.fv.ownBlock = some g ∧ ∀ i, i < s.files.length → w.cell? ⟨g, i, none⟩ = some (ofFile r.fb i)) := by
  rcases h.rows.2 with ⟨e, hn⟩ | ⟨g, cap, cur, e, _, hh, h1, h2, h3, h4⟩
  · exact ⟨none, 0, by rw [e, hn], by omega, fun h => by omega⟩
  · refine ⟨_, cap, e, by unfold maxLen at h2; omega, fun _ => ⟨g, rfl, by rw [e]; rfl, fun i hi => ?_⟩⟩
    have := congrArg (fun l => l[i]?) h4
    simp only [List.getElem?_take, List.getElem?_map] at this
    rw [if_pos (by omega), Array.getElem?_toList] at this
    have hb : r.fb[i]? = some (fileB r.fb i) := by unfold fileB; rw [List.getD_eq_getElem?_getD, List.getElem?_eq_getElem (by rw [h.fbl]; exact hi)]; rfl
    rw [hb] at this
    simp only [World.cell?, hh]
    rw [this]
    rfl

/-- What is pending, wherever it lies. -/
def PendAt (w : World) (fb : List Nat) (A : Option Addr) (l : List Ent) : Prop :=
  ∀ (j : Nat) (e : Ent), l[j]? = some e → ∃ g cur, A = some ⟨g, 0, none⟩ ∧ w.heap[g]? = some (.cells cur 75 (0, 0)) ∧ cur[3 * j]? = some (.string e.gone) ∧ cur[3 * j + 1]? = some (.string e.name) ∧ cur[3 * j + 2]? = some (e.f.elim (.pointer none) (ofFile fb))
theorem pend_at {S : Nat → Prop} {w : World} {db : Nat} {s : Dk} {r : Rep} (h : DiskRep S w db s r) : ∃ A cap, r.pv = .slice A s.pend.length cap ∧ s.pend.length ≤ cap ∧ cap ≤ maxLen ∧ (A = none → s.pend.length = 0 ∧ cap = 0) ∧ (∀ a, A = some a → ∃ g, a = ⟨g, 0, none⟩) ∧ PendAt w r.fb A s.pend := by
  rcases pend_form h with ⟨e, hn⟩ | ⟨g, cap, e, h1, h2, cur, hh, hc⟩
  · exact ⟨none, 0, by rw [e, hn]; rfl, by rw [hn]; exact Nat.le_refl _, Nat.zero_le _, fun _ => ⟨by rw [hn]; rfl, rfl⟩, (fun a e => by cases e), fun j e hj => by rw [hn] at hj; simp at hj⟩
  · exact ⟨_, cap, e, h1, h2, (fun e => by cases e), (fun a e => ⟨g, by cases e; rfl⟩), fun j en hj => ⟨g, cur, rfl, hh, hc j en hj⟩⟩

theorem DiskRep.sdirTurn {S : Nat → Prop} {w w' : World} {db : Nat} {s : Dk} {r : Rep} (h : DiskRep S w db s r) (ht : Touch (fun k => k = r.sB) w w') {l : Dir} (hd : DirAt w' r.sB (ofFile r.fb) l) (hin : ∀ p ∈ l, p.2 < s.files.length) :
    DiskRep S w' db { s with sdir := l } r := by
  have hk : ∀ k o t, w.heap[k]? = some o → et o = some t → w'.heap[k]? = some o := fun k o t ho he => ht.heap ho (fun e => by
    rw [e] at ho
    obtain ⟨es, c, hh, _⟩ := h.sdir
    rw [hh] at ho
    cases ho
    cases he)
  exact { sdb := h.sdb, blk := hk _ _ _ h.blk rfl, fbl := h.fbl, fbn := h.fbn, rows := own_keep h.rows (fun k o ho _ he => hk k o _ ho he), rowS := h.rowS,
          files := h.files.keep (fun _ hs => hs) (fun k o ho _ he => by rcases he with he | he <;> exact hk k o _ ho he), sdB := h.sdB, dir := h.dir.of_heap (ht.block _ h.dir.lt (fun e => h.ne1 e)), ssB := h.ssB,
          sdir := hd, ne1 := h.ne1, pend := own_keep h.pend (fun k o ho _ he => hk k o _ ho he), pendS := h.pendS,
          plan := h.plan.keep (fun _ hs => hs) (fun k e => by
            have hp := h.plan
            rw [e] at hp
            exact ht.block k hp.2.lt (fun e2 => h.ne3 (by rw [e, e2]))), ne2 := h.ne2, ne3 := h.ne3, inD := h.inD, inS := hin, inP := h.inP }

/-- The files behind k rounds. -/
def bootTo (kept : List Int) (k : Nat) (fs : List Fil) : List Fil := fs.mapIdx fun i f => if i < k then bootFile kept i f else f
def dirTo (s : Dk) (k : Nat) : Dir := (s.pend.take k).foldl toDir s.sdir

theorem bootTo_zero (kept : List Int) (fs : List Fil) : bootTo kept 0 fs = fs := by
  apply List.ext_getElem?
  intro i
  simp [bootTo]
theorem bootTo_succ (kept : List Int) (k : Nat) (fs : List Fil) (f : Fil) (h : (bootTo kept k fs)[k]? = some f) : bootTo kept (k + 1) fs = (bootTo kept k fs).set k (bootFile kept k f) := by
  have hf : fs[k]? = some f := by
    unfold bootTo at h
    simp only [List.getElem?_mapIdx, Nat.lt_irrefl, if_false, Option.map_eq_some_iff] at h
    obtain ⟨a, ha, rfl⟩ := h
    exact ha
  apply List.ext_getElem?
  intro i
  have hl := (List.getElem?_eq_some_iff.1 hf).1
  simp only [bootTo, List.getElem?_set, List.getElem?_mapIdx, List.length_mapIdx]
  by_cases e : k = i
  · subst e
    have hf2 : fs[k] = f := by rw [List.getElem?_eq_getElem hl] at hf; exact Option.some.inj hf
    simp [hl]
    exact congrArg _ hf2
  · rw [if_neg e]
    congr 1
    funext a
    have : (i < k + 1) ↔ (i < k) := by omega
    simp [this]
theorem bootTo_all (kept : List Int) (fs : List Fil) : bootTo kept fs.length fs = fs.mapIdx (bootFile kept) := by
  apply List.ext_getElem?
  intro i
  simp only [bootTo, List.getElem?_mapIdx]
  by_cases hi : i < fs.length
  · simp [hi]
  · simp [List.getElem?_eq_none (Nat.le_of_not_lt hi)]
theorem bootTo_length (kept : List Int) (k : Nat) (fs : List Fil) : (bootTo kept k fs).length = fs.length := by simp [bootTo]

theorem IntsAt.touch {S : Nat → Prop} {w w' : World} {A : Option Addr} {n : Nat} {xs : List Int} (h : IntsAt w A n xs) (ht : Touch S w w') (hS : ∀ b o, A = some ⟨b, o, none⟩ → 0 < n → ¬ S b) : IntsAt w' A n xs := by
  refine ⟨h.1, h.2.1, fun hp => ?_⟩
  obtain ⟨b, o, e, hc⟩ := h.2.2 hp
  refine ⟨b, o, e, fun j hj => ?_⟩
  exact (World.cell?_of_block (ht.block b (World.block_lt_of_cell? _ _ (hc j hj)) (hS b o e hp))).trans (hc j hj)
theorem DiskRep.rowCell {S : Nat → Prop} {w : World} {db : Nat} {s : Dk} {r : Rep} (h : DiskRep S w db s r) {A : Option Addr} {n c : Nat} (hv : r.fv = .slice A n c) {i : Nat} (hi : i < s.files.length) : ∃ g, A = some ⟨g, 0, none⟩ ∧ w.cell? ⟨g, i, none⟩ = some (ofFile r.fb i) := by
  obtain ⟨A', c', e, _, h2⟩ := files_form h
  obtain ⟨g, e2, _, hc⟩ := h2 (by omega)
  rw [hv] at e
  cases e
  exact ⟨g, e2, hc i hi⟩
theorem BytesIn.take {S : Nat → Prop} {w : World} {A : Option Addr} {c : Nat} {xs : List Int} (h : BytesIn S w (.slice A xs.length c) xs) {m : Nat} (hm : m ≤ xs.length) : BytesIn S w (.slice A m c) (xs.take m) := by
  obtain ⟨A', c', e, ⟨hz, hlc⟩, hl, hr⟩ := h
  cases e
  have hln : (xs.take m).length = m := by simp; omega
  refine ⟨A, c, by rw [hln], ⟨hz, by rw [hln]; omega⟩, by rw [hln]; omega, fun hp => ?_⟩
  rw [hln] at hp
  obtain ⟨b, o, cur, fr, e2, hs, hh, hc⟩ := hr (by omega)
  refine ⟨b, o, cur, fr, e2, hs, hh, fun j hj => ?_⟩
  rw [hln] at hj
  rw [hc j (by omega)]
  simp [List.getD_eq_getElem?_getD, List.getElem?_take, hj]

theorem bootFile_none {kept : List Int} {k : Nat} {f : Fil} (h : ¬ k < kept.length) : bootFile kept k f = ⟨f.safe, f.safe⟩ := by
  simp [bootFile, List.getElem?_eq_none (Nat.le_of_not_lt h)]
theorem bootFile_low {kept : List Int} {k : Nat} {f : Fil} {x : Int} (h : kept[k]? = some x) (hx : ¬ (f.safe.length : Int) < x) : bootFile kept k f = ⟨f.safe, f.safe⟩ := by
  simp [bootFile, h, hx]
theorem bootFile_high {kept : List Int} {k : Nat} {f : Fil} {x : Int} (h : kept[k]? = some x) (hx : (f.safe.length : Int) < x) {m : Nat} (hm : m = (min x f.now.length).toNat) : bootFile kept k f = ⟨f.now.take m, f.now.take m⟩ := by
  subst hm
  simp [bootFile, h, hx]

theorem DiskRep.bootTurn {S S' : Nat → Prop} {w w' : World} {db : Nat} {s : Dk} {r : Rep} (h : DiskRep S w db s r) (hS : ∀ k, S k → S' k) (nb : Nat)
    (hk : ∀ k o, w.heap[k]? = some o → k ≠ db → w'.heap[k]? = some o) (hnew : w.heap.size ≤ nb) (hnS : S' nb) (hd : DirAt w' nb (ofFile r.fb) s.sdir)
    (hb : w'.heap[db]? = some (.cells #[.int .i64 s.room, r.fv, .map (some nb), .map (some r.sB), .slice none 0 0, .map none, .int .i64 s.steps, .bool false] 69 (0, 0))) :
    DiskRep S' w' db { s with dir := s.sdir, pend := [], plan := [], down := false } { r with dB := nb, pv := .slice none 0 0, plan := none } := by
  have hk' : ∀ k o, w.heap[k]? = some o → et o ≠ some 69 → w'.heap[k]? = some o := fun k o ho h1 => hk k o ho (fun e => by
    rw [e, h.blk] at ho
    cases ho
    exact h1 rfl)
  have hm : ∀ {b : Nat} {es : Array MapEntry} {c : Nat}, w.heap[b]? = some (.map es c) → w'.heap[b]? = w.heap[b]? := fun hb => (hk' _ _ hb (by simp [et])).trans hb.symm
  have hlt := h.sdir.lt
  exact { sdb := hS _ h.sdb, blk := hb, fbl := h.fbl, fbn := h.fbn, rows := own_keep h.rows (fun k o ho _ he => hk' k o ho (by rw [he]; simp)), rowS := fun k e => hS _ (h.rowS k e),
          files := h.files.keep hS (fun k o ho _ he => hk' k o ho (by rcases he with he | he <;> rw [he] <;> simp)), sdB := hnS,
          dir := hd, ssB := hS _ h.ssB,
          sdir := h.sdir.of_heap (by obtain ⟨es, c, hh, _⟩ := h.sdir; exact hm hh), ne1 := by show nb ≠ r.sB; omega, pend := ⟨rfl, .inl ⟨rfl, rfl⟩⟩, pendS := fun k e => by simp [Value.ownBlock] at e,
          plan := rfl, ne2 := by simp, ne3 := by simp, inD := h.inS, inS := h.inS, inP := fun e he => by cases he }

theorem dirTo_in {S : Nat → Prop} {w : World} {db : Nat} {s : Dk} {r : Rep} (h : DiskRep S w db s r) (k : Nat) : ∀ p ∈ dirTo s k, p.2 < s.files.length := by
  have key : ∀ (l : List Ent) (d : Dir), (∀ e ∈ l, ∀ i, e.f = some i → i < s.files.length) → (∀ p ∈ d, p.2 < s.files.length) → ∀ p ∈ l.foldl toDir d, p.2 < s.files.length := by
    intro l
    induction l with
    | nil => intro d _ hd; exact hd
    | cons e l ih => intro d hl hd; exact ih _ (fun e' he => hl e' (List.mem_cons_of_mem _ he)) (toDir_in hd (hl e (List.mem_cons_self ..)))
  exact key _ _ (fun e he => h.inP e (List.mem_of_mem_take he)) h.inS

set_option maxRecDepth 100000 in
set_option maxHeartbeats 4000000 in
theorem boot_ok (S : Nat → Prop) (db : Nat) (s : Dk) (r : Rep) (en : Int) (A : Option Addr) (n c : Nat) (kept : List Int) (w : World) (h : DiskRep S w db s r) (hk : IntsAt w A n kept) (hkS : ∀ b o, A = some ⟨b, o, none⟩ → 0 < n → ¬ S b)
    (hen : -9223372036854775808 ≤ en ∧ en ≤ 9223372036854775807) :
    Calls Try.prog 9 #[fptr db, .int .i64 en, .slice A n c] w fun e w' => e = .returned (.tuple #[]) ∧ Disk (Grow S w) w' db (boot en kept s) ∧ Touch S w w' := by
  unfold fptr
  obtain ⟨⟨d0, d1, d2, d3, d4, d5, d6, d7⟩, hf', hlt'⟩ := cells8 h.blk
  obtain ⟨A2, cap, epv, hl1, hl2, hA2, hA3, hPA⟩ := pend_at h
  obtain ⟨k0, hk0⟩ : ∃ k0 : Nat, k0 = (min (max en 0) s.pend.length).toNat := ⟨_, rfl⟩
  unfold maxLen at hl2
  rw [epv] at d4
  have hkn : k0 ≤ s.pend.length := by omega
  have HK0 := Lib.hid hk0
  clear hk0
  have HEPV := Lib.hid epv
  clear epv
  have HA2 := Lib.hid hA2
  have HA3 := Lib.hid hA3
  have HPA := Lib.hid hPA
  clear hA2 hA3 hPA
  have HKK := Lib.hid hk
  clear hk
  generalize hL : s.pend.length = L at *
  have HL := Lib.hid hL
  clear hL
  have hin : ∀ k, ∀ p ∈ dirTo s k, p.2 < s.files.length := fun k => dirTo_in h k
  have HIN := Lib.hid hin
  clear hin
  go_enter Try.func9, Try.ntmps9
  go_upto_region 1 with fail
  go_cut [24, 25, 26] (fun a b c wx => (∃ c2, a = .slice A2 k0 c2) ∧ b = .int .i64 k0 ∧ c = .int .i64 0 ∧ ∃ nq, wx = w.drewN nq)
  case first =>
    have hk0 := HK0.out
    by_cases h1 : en < 0
    · obtain rfl : k0 = 0 := by omega
      clear hk0 HK0
      cases A2 with
      | none =>
        obtain ⟨hz1, hz2⟩ := HA2.out rfl
        subst hz1 hz2
        go_quiet (fail)
        all_goals (go_wp2_with fail; go_meet; exact ⟨⟨_, rfl⟩, rfl, rfl, _, rfl⟩)
      | some a =>
        obtain ⟨g, rfl⟩ := HA3.out a rfl
        go_quiet (fail)
        all_goals (first | omega | (go_wp2_with fail; go_meet; exact ⟨⟨_, rfl⟩, rfl, rfl, _, rfl⟩))
    · by_cases h2 : en ≤ L
      · obtain rfl : en = k0 := by omega
        clear hk0 HK0
        cases A2 with
        | none =>
          obtain ⟨hz1, hz2⟩ := HA2.out rfl
          subst hz1 hz2
          obtain rfl : k0 = 0 := by omega
          go_quiet (fail)
          all_goals (first | omega | (go_wp2_with fail; go_meet; exact ⟨⟨_, rfl⟩, rfl, rfl, _, rfl⟩))
        | some a =>
          obtain ⟨g, rfl⟩ := HA3.out a rfl
          go_quiet (fail)
          all_goals (first | omega | (go_wp2_with fail; go_meet; exact ⟨⟨_, rfl⟩, rfl, rfl, _, rfl⟩))
      · obtain rfl : k0 = L := by omega
        clear hk0 HK0
        cases A2 with
        | none =>
          obtain ⟨hz1, hz2⟩ := HA2.out rfl
          subst hz1 hz2
          go_quiet (fail)
          all_goals (first | omega | (go_wp2_with fail; go_meet; exact ⟨⟨_, rfl⟩, rfl, rfl, _, rfl⟩))
        | some a =>
          obtain ⟨g, rfl⟩ := HA3.out a rfl
          go_quiet (fail)
          all_goals (first | omega | (go_wp2_with fail; go_meet; exact ⟨⟨_, rfl⟩, rfl, rfl, _, rfl⟩))
  case rest =>
    obtain ⟨⟨c2, rfl⟩, rfl, rfl, nq, rfl⟩ := hcut
    go_wp2_with fail
    go_loopw [26] (fun i wr => ∃ k : Nat, k ≤ k0 ∧ i = .int .i64 k ∧ DirAt wr r.sB (ofFile r.fb) (dirTo s k) ∧ Touch (fun x => x = r.sB) w wr) (fun i _ => k0 - (intOf i).toNat)
    case atStart => exact ⟨0, Nat.zero_le _, rfl, by unfold dirTo; simpa using h.sdir.drewN nq, (Touch.refl _ w).drewN nq⟩
    case round =>
      obtain ⟨k, hk1, rfl, hdk, htk⟩ := hrel
      have hdr : DiskRep S wr db { s with sdir := dirTo s k } r := h.sdirTurn htk hdk (fun p hp => HIN.out k p hp)
      clear d0 d1 d2 d3 d4 d5 d6 d7 hf'
      obtain ⟨⟨d0, d1, d2, d3, d4, d5, d6, d7⟩, hf', hltr⟩ := cells8 hdr.blk
      by_cases hkl : k < k0
      · have hkL : k < s.pend.length := by have := HL.out; omega
        obtain ⟨g, cur, rfl, hg, q0, q1, q2⟩ := HPA.out k _ (List.getElem?_eq_getElem hkL)
        have hgr : wr.heap[g]? = some (.cells cur 75 (0, 0)) := htk.heap hg (fun e => by
          obtain ⟨es, c, hh, _⟩ := h.sdir
          rw [show g = r.sB from e, hh] at hg
          cases hg)
        obtain ⟨x, hx⟩ : ∃ x, x = s.pend[k] := ⟨_, rfl⟩
        rw [← hx] at q0 q1 q2
        have HX := Lib.hid hx
        clear hx hg
        obtain ⟨v, hv⟩ : ∃ v, v = x.f.elim (.pointer none) (ofFile r.fb) := ⟨_, rfl⟩
        rw [← hv] at q2
        obtain ⟨vp, hvp⟩ : ∃ p, v = .pointer p := by
          subst hv
          cases x.f with
          | none => exact ⟨none, rfl⟩
          | some i => exact ⟨_, rfl⟩
        subst hvp
        have HV := Lib.hid hv
        clear hv
        have c0 : wr.cell? ⟨g, k * 3, none⟩ = some (.string x.gone) := by simp [World.cell?, hgr, Nat.mul_comm k 3, q0]
        have c1 : wr.cell? ⟨g, k * 3 + 1, none⟩ = some (.string x.name) := by simp [World.cell?, hgr, Nat.mul_comm k 3, q1]
        have c2 : wr.cell? ⟨g, k * 3 + 2, none⟩ = some (.pointer vp) := by simp [World.cell?, hgr, Nat.mul_comm k 3, q2]
        clear q0 q1 q2 hgr
        have hB : Below wr.heap.size wr (wr.alloc (.cells #[.string x.gone, .string x.name, .pointer vp] 75)) := (Below.refl _ _).alloc (Nat.le_refl _) _
        have h1 := hdr.below hB
        clear d0 d1 d2 d3 d4 d5 d6 d7 hf'
        obtain ⟨⟨d0, d1, d2, d3, d4, d5, d6, d7⟩, hf', hltr⟩ := cells8 h1.blk
        obtain ⟨⟨x0, x1, x2⟩, xf, xl⟩ := cells3 (World.alloc_heap_new wr (.cells #[.string x.gone, .string x.name, .pointer vp] 75))
        have hto := fun nq => to_ok r.sB r.fb (dirTo s k) x.gone x.name x.f ((wr.alloc (.cells #[.string x.gone, .string x.name, .pointer vp] 75)).drewN nq) (h1.sdir.drewN nq)
        rw [← HV.out] at hto
        have HTO := Lib.hid hto
        clear hto
        go_wp2_with fail
        go_region_with (go_at_call 33; refine (HTO.out 1).mono ?_; rintro e w1 ⟨rfl, hd1, ht1⟩)
        all_goals
          go_wp2
          go_roundw
          case rel =>
            refine ⟨k + 1, by omega, by go_num, ?_, ?_⟩
            · have : dirTo s (k + 1) = toDir (dirTo s k) x := by
                unfold dirTo
                rw [HX.out, List.take_add_one, List.getElem?_eq_getElem hkL, List.foldl_append]
                rfl
              rw [this]
              exact hd1
            · exact ((htk.alloc _).drewN 1).trans (ht1.mono (fun k _ e => Or.inl e))
          case measure => simp [intOf]; omega
      · obtain rfl : k = k0 := by omega
        obtain ⟨s1, hs1⟩ : ∃ s1, s1 = ({ s with sdir := dirTo s k } : Dk) := ⟨_, rfl⟩
        rw [← hs1] at hdr
        have HS1 := Lib.hid hs1
        have hkk := HKK.out.touch (htk.mono (fun k _ e => (show S k from e ▸ h.ssB))) hkS
        have HKR := Lib.hid hkk
        have htS : Touch S w wr := htk.mono (fun k _ e => (show S k from e ▸ h.ssB))
        clear hs1 hkk d0 d1 d2 d3 d4 d5 d6 d7 hf' hdk htk
        obtain ⟨w1, rfl⟩ : ∃ w1 : World, w1 = wr := ⟨_, rfl⟩
        obtain ⟨⟨d0, d1, d2, d3, d4, d5, d6, d7⟩, hf', hltr⟩ := cells8 hdr.blk
        obtain ⟨A3, c3, efv, hfl, _⟩ := files_form hdr
        rw [efv] at d1
        have HEFV := Lib.hid efv
        clear efv
        obtain ⟨N, hN⟩ : ∃ N, N = s1.files.length := ⟨_, rfl⟩
        rw [← hN] at d1 HEFV hfl
        have HN := Lib.hid hN
        clear hN
        go_wp2_with fail
        go_loopw [42] (fun i wl => ∃ k : Nat, k ≤ N ∧ i = .int .i64 k ∧ DiskRep S wl db { s1 with files := bootTo kept k s1.files } r ∧ Touch S w1 wl) (fun i _ => N - (intOf i).toNat)
        case atStart => exact ⟨0, Nat.zero_le _, rfl, by rw [bootTo_zero]; exact hdr, Touch.refl _ _⟩
        case round =>
          obtain ⟨k2, hk2, rfl, hd2, ht2⟩ := hrel
          obtain ⟨wl, rfl⟩ : ∃ wl : World, wl = wr := ⟨_, rfl⟩
          clear d0 d1 d2 d3 d4 d5 d6 d7 hf'
          by_cases hkl2 : k2 < N
          · have hkl3 : k2 < (bootTo kept k2 s1.files).length := by have := HN.out; unfold bootTo; simp; omega
            obtain ⟨g, e3, hg⟩ := hd2.rowCell HEFV.out hkl3
            subst e3
            obtain ⟨f, nv, sv, f0, f1, f2, f3, f4⟩ := hd2.fileI hkl3
            unfold ofFile fptr at hg
            obtain ⟨⟨x0, x1⟩, xf, xl⟩ := cells2 f2
            have F0 := Lib.hid f0
            clear f0
            obtain ⟨AN, cN, rfl⟩ := f3.sl
            obtain ⟨AS, cS, rfl⟩ := f4.sl
            have HF3 := Lib.hid f3
            have HF4 := Lib.hid f4
            clear f3 f4
            have hback : ∀ (wz : World) (u1 u2 : Value) (f' : Fil), (∀ k o, wl.heap[k]? = some o → k ≠ fileB r.fb k2 → wz.heap[k]? = some o) → wz.heap[fileB r.fb k2]? = some (.cells #[u1, u2] 78 (0, 0)) →
                (∃ u, u1 = u ∧ u2 = u ∧ (BytesIn S wl u f'.now)) → f'.safe = f'.now → bootFile kept k2 f = f' → DiskRep S wz db { s1 with files := bootTo kept (k2 + 1) s1.files } r := by
              rintro wz u1 u2 f' hk hb ⟨u, rfl, rfl, hu⟩ hsn hbf
              rw [bootTo_succ kept k2 s1.files f F0.out, hbf]
              have hu' : BytesIn S wz u2 f'.now := hu.keep (fun _ hs => hs) (fun k o ho _ he => hk k o ho (fun e => by
                rw [e, f2] at ho
                cases ho
                cases he))
              exact DiskRep.fileTurn hd2 (fun _ hs => hs) k2 f f' F0.out u2 u2 hk hb hu' (hsn ▸ hu')
            have HBACK := Lib.hid hback
            clear hback
            by_cases hkn2 : k2 < n
            · have hkR := HKR.out.touch ht2 hkS
              obtain ⟨kb, ko, rfl, hkc⟩ := hkR.2.2 (by omega)
              have hkc2 := hkc k2 hkn2
              obtain ⟨x, hx⟩ : ∃ x, x = kept.getD k2 0 := ⟨_, rfl⟩
              rw [← hx] at hkc2
              have hkx : kept[k2]? = some x := by
                have hkl4 : k2 < kept.length := by rw [hkR.1]; exact hkn2
                rw [hx, List.getD_eq_getElem?_getD, List.getElem?_eq_getElem hkl4]
                rfl
              have HKX := Lib.hid hkx
              clear hx hkc hkR hkx
              by_cases hsx : (f.safe.length : Int) < x
              · have hf3 := HF3.out
                obtain ⟨A', c', e, ⟨hz, hlc⟩, _, _⟩ := hf3
                cases e
                by_cases hnx : x ≤ f.now.length
                · obtain ⟨m, rfl⟩ : ∃ m : Nat, x = m := ⟨x.toNat, by omega⟩
                  cases AN with
                  | none => have := hz rfl; omega
                  | some an =>
                    clear hz
                    go_wp2_with fail
                    go_quiet (fail)
                    go_wp2_with fail
                    go_region
                    all_goals
                      go_wp2_with fail
                      go_roundw
                      case rel =>
                        refine ⟨k2 + 1, by omega, by go_num, ?_, ((ht2.drewN _).set1 _ 1 (.inl f1) _).set1 _ 0 (.inl f1) _⟩
                        exact HBACK.out _ _ _ ⟨f.now.take m, f.now.take m⟩ (fun k o ho hk => by rw [Below.heap_setCell _ _ _ _ hk, Below.heap_setCell _ _ _ _ hk]; exact ho) (heap_setCell8 (heap_setCell8 f2 1 _) 0 _) ⟨_, rfl, rfl, HF3.out.take (by omega)⟩ rfl (bootFile_high HKX.out hsx (by omega))
                      case measure => simp [intOf]; omega
                · cases AN with
                  | none =>
                    have hz2 := hz rfl
                    clear hz
                    subst hz2
                    have hz3 : f.now.length = 0 := by omega
                    go_wp2_with fail
                    go_quiet (fail)
                    go_wp2_with fail
                    go_region
                    all_goals
                      go_wp2_with fail
                      go_roundw
                      case rel =>
                        refine ⟨k2 + 1, by omega, by go_num, ?_, ((ht2.drewN _).set1 _ 1 (.inl f1) _).set1 _ 0 (.inl f1) _⟩
                        exact HBACK.out _ _ _ ⟨f.now.take f.now.length, f.now.take f.now.length⟩ (fun k o ho hk => by rw [Below.heap_setCell _ _ _ _ hk, Below.heap_setCell _ _ _ _ hk]; exact ho) (heap_setCell8 (heap_setCell8 f2 1 _) 0 _) ⟨_, rfl, rfl, (by show BytesIn S wl (.slice none 0 0) (f.now.take f.now.length); have t := HF3.out.take (Nat.le_refl _); rw [hz3] at t ⊢; exact t)⟩ rfl (bootFile_high HKX.out hsx (by omega))
                      case measure => simp [intOf]; omega
                  | some an =>
                    clear hz
                    go_wp2_with fail
                    go_quiet (fail)
                    go_wp2_with fail
                    go_region
                    all_goals
                      go_wp2_with fail
                      go_roundw
                      case rel =>
                        refine ⟨k2 + 1, by omega, by go_num, ?_, ((ht2.drewN _).set1 _ 1 (.inl f1) _).set1 _ 0 (.inl f1) _⟩
                        exact HBACK.out _ _ _ ⟨f.now.take f.now.length, f.now.take f.now.length⟩ (fun k o ho hk => by rw [Below.heap_setCell _ _ _ _ hk, Below.heap_setCell _ _ _ _ hk]; exact ho) (heap_setCell8 (heap_setCell8 f2 1 _) 0 _) ⟨_, rfl, rfl, HF3.out.take (Nat.le_refl _)⟩ rfl (bootFile_high HKX.out hsx (by omega))
                      case measure => simp [intOf]; omega
              · go_wp2_with fail
                go_quiet (fail)
                go_wp2_with fail
                go_roundw
                case rel =>
                  refine ⟨k2 + 1, by omega, by go_num, ?_, (ht2.drewN _).set1 _ 0 (.inl f1) _⟩
                  exact HBACK.out _ _ _ ⟨f.safe, f.safe⟩ (fun k o ho hk => by rw [Below.heap_setCell _ _ _ _ hk]; exact ho) (heap_setCell8 f2 0 _) ⟨_, rfl, rfl, HF4.out⟩ rfl (bootFile_low HKX.out (by omega))
                case measure => simp [intOf]; omega
            · go_wp2_with fail
              go_quiet (fail)
              go_wp2_with fail
              go_roundw
              case rel =>
                refine ⟨k2 + 1, by omega, by go_num, ?_, (ht2.drewN _).set1 _ 0 (.inl f1) _⟩
                exact HBACK.out _ _ _ ⟨f.safe, f.safe⟩ (fun k o ho hk => by rw [Below.heap_setCell _ _ _ _ hk]; exact ho) (heap_setCell8 f2 0 _) ⟨_, rfl, rfl, HF4.out⟩ rfl (bootFile_none (by rw [HKR.out.1]; exact hkn2))
              case measure => simp [intOf]; omega
          · obtain rfl : k2 = N := by omega
            obtain ⟨⟨d0, d1, d2, d3, d4, d5, d6, d7⟩, hf', hltr2⟩ := cells8 hd2.blk
            go_wp2_with (go_at_call 34; refine (clone_ok _ _ _ _ hd2.sdir).mono ?_; rintro e w2 ⟨rfl, hd3, hb3, hlt3⟩; obtain ⟨⟨y0, y1, y2, y3, y4, y5, y6, y7⟩, yf, yl⟩ := cells8 (below_heap hb3 hd2.blk))
            go_end0
            have hEQ : boot en kept s = { ({ s1 with files := bootTo kept k2 s1.files } : Dk) with dir := s1.sdir, pend := [], plan := [], down := false } := by
              rw [HN.out, bootTo_all, HS1.out]
              unfold boot dirTo
              rw [HK0.out, HL.out]
            rw [hEQ]
            have r2 := hd2.below hb3
            refine ⟨rfl, ⟨_, DiskRep.bootTurn (S' := Grow S w) hd2 (fun _ hs => .inl hs) wl.heap.size ?_ (Nat.le_refl _) (.inr (Nat.le_trans htS.size ht2.size)) ?_ ?_⟩, ?_⟩
            · intro k o ho hk
              rw [Below.heap_setCell _ _ _ _ hk, Below.heap_setCell _ _ _ _ hk, Below.heap_setCell _ _ _ _ hk, Below.heap_setCell _ _ _ _ hk]
              exact below_heap hb3 ho
            · refine hd3.of_heap ?_
              have hne : wl.heap.size ≠ db := by omega
              rw [Below.heap_setCell _ _ _ _ hne, Below.heap_setCell _ _ _ _ hne, Below.heap_setCell _ _ _ _ hne, Below.heap_setCell _ _ _ _ hne]
            · rw [heap_setCell8 (heap_setCell8 (heap_setCell8 (heap_setCell8 r2.blk 2 _) 4 _) 5 _) 7 _]
              rfl
            · exact ((((((htS.trans (ht2.mono (fun k _ e => .inl e))).trans (Touch.of_below hb3))).set1 db 2 (.inl h.sdb) _).set1 db 4 (.inl h.sdb) _).set1 db 5 (.inl h.sdb) _).set1 db 7 (.inl h.sdb) _
end Go.Proofs.Ythdncdhgnoggkaa
