/-
  The contracts of maps.Clone at a directory, of slices.Clone and slices.Concat at bytes, of a disk's Dirsync, Read, Write.
  Conditions: the disk lies in blocks of S; the bytes are few enough for their slices.
-/
import Derived.Test.YthdncdhgnoggkaaOps
set_option linter.unusedSimpArgs false
set_option linter.unusedVariables false
namespace Go.Proofs.Ythdncdhgnoggkaa
open Go.RowKit

theorem run_clone (w : World) (b : Nat) (es : Array MapEntry) (c : Nat) (t : TypeId) (hb : w.heap[b]? = some (.map es c)) :
    (Extern.MapsClone.clone #[.iface t (.map (some b))]).run Try.prog w = .ok (.iface t (.map (some w.heap.size))) (w.alloc (.map es c)) := by
  have e : Extern.MapsClone.clone #[.iface t (.map (some b))] = (getObj b >>= fun o => match o with
      | .map entries clock => (newObj (.map entries clock) >>= fun n => pure (.iface t (.map (some n))))
      | _ => stuck "maps.clone: a map expected") := rfl
  rw [e]
  simp [MapKept.run_getObj_map hb, Result.andThen, go_sem]

set_option maxRecDepth 100000 in
set_option maxHeartbeats 2000000 in
theorem clone_ok (b : Nat) (fb : List Nat) (l : Dir) (w : World) (h : DirAt w b (ofFile fb) l) :
    Calls Try.prog 34 #[.map (some b)] w fun e w' => e = .returned (.map (some w.heap.size)) ∧ DirAt w' w.heap.size (ofFile fb) l ∧ Below w.heap.size w w' ∧ w.heap.size < w'.heap.size := by
  obtain ⟨es, c, hb, hs, hm⟩ := h
  have hnn := run_eql_map_nil (P := Try.prog) w 64 9 73 (some b) Try.underlying64
  have hcl : (callFunc 62 #[.iface 64 (.map (some b))]).run Try.prog w = .ok (.value (.iface 64 (.map (some w.heap.size)))) (w.alloc (.map es c)) := by
    rw [run_callFunc_extern Try.func62 (by kernel_rfl) (by kernel_rfl) (by kernel_rfl) (e := Extern.MapsClone.clone) (by kernel_rfl), run_clone w b es c 64 hb]
    rfl
  have hta : ∀ (m : Option Nat) (u : World), (Instr.typeAssert (.iface 64 (.map m)) 20 64 false).run Try.prog u = .ok (.map m) u := fun m u => by kernel_rfl
  go_enter Try.func34, Try.ntmps34
  go_wp2
  go_ret
  exact ⟨rfl, ⟨es, c, World.alloc_heap_new w _, hs, hm⟩, (Below.refl _ _).alloc (Nat.le_refl _) _, by simp⟩

/-- The directory's safe copy is a new one; nothing is pending; the disk's block holds both. -/
theorem DiskRep.syncTurn {S S' : Nat → Prop} {w w' : World} {db : Nat} {s : Dk} {r : Rep} (h : DiskRep S w db s r) (hS : ∀ k, S k → S' k) (nb : Nat)
    (hk : ∀ k o, w.heap[k]? = some o → k ≠ db → w'.heap[k]? = some o) (hnew : w.heap.size ≤ nb) (hnS : S' nb) (hd : DirAt w' nb (ofFile r.fb) s.dir)
    (hb : w'.heap[db]? = some (.cells #[.int .i64 s.room, r.fv, .map (some r.dB), .map (some nb), .slice none 0 0, .map r.plan, .int .i64 s.steps, .bool s.down] 69 (0, 0))) :
    DiskRep S' w' db { s with sdir := s.dir, pend := [] } { r with sB := nb, pv := .slice none 0 0 } := by
  have hk' : ∀ k o, w.heap[k]? = some o → et o ≠ some 69 → w'.heap[k]? = some o := fun k o ho h1 => hk k o ho (fun e => by
    rw [e, h.blk] at ho
    cases ho
    exact h1 rfl)
  have hm : ∀ {b : Nat} {es : Array MapEntry} {c : Nat}, w.heap[b]? = some (.map es c) → w'.heap[b]? = w.heap[b]? := fun hb => (hk' _ _ hb (by simp [et])).trans hb.symm
  have hlt := h.dir.lt
  exact { sdb := hS _ h.sdb, blk := hb, fbl := h.fbl, fbn := h.fbn, rows := own_keep h.rows (fun k o ho _ he => hk' k o ho (by rw [he]; simp)), rowS := fun k e => hS _ (h.rowS k e),
          files := h.files.keep hS (fun k o ho _ he => hk' k o ho (by rcases he with he | he <;> rw [he] <;> simp)), sdB := hS _ h.sdB,
          dir := h.dir.of_heap (by obtain ⟨es, c, hh, _⟩ := h.dir; exact hm hh), ssB := hnS,
          sdir := hd, ne1 := by show r.dB ≠ nb; omega, pend := ⟨rfl, .inl ⟨rfl, rfl⟩⟩, pendS := fun k e => by simp [Value.ownBlock] at e,
          plan := h.plan.keep hS (fun k e => by
            have hp := h.plan
            rw [e] at hp
            obtain ⟨_, es, c, hh, _⟩ := hp
            exact hm hh), ne2 := h.ne2, ne3 := fun e => by
              have hp := h.plan
              have e' : r.plan = some nb := e
              rw [e'] at hp
              have := hp.2.lt
              omega, inD := h.inD, inS := h.inD, inP := fun e he => by cases he }

set_option maxRecDepth 100000 in
set_option maxHeartbeats 2000000 in
theorem dirsync_ok (S : Nat → Prop) (db : Nat) (s : Dk) (r : Rep) (w : World) (h : DiskRep S w db s r) :
    Calls Try.prog 36 #[fptr db] w fun e w' => e = .returned (.int .i64 (dirsync s).1) ∧ Disk (Grow S w) w' db (dirsync s).2 ∧ Touch S w w' := by
  have hstep := step_ok S db none 0 0 [] s r w h ⟨rfl, by simp, fun h => by omega⟩ (by simp)
  have e0 := step_ok0 true s
  have hall : ([] : List ByteArray).all okName = true := rfl
  rw [hall] at hstep
  generalize hst : step true s = st at hstep e0
  obtain ⟨e1, s1⟩ := st
  unfold fptr at hstep ⊢
  dsimp only at hstep e0
  have HS := Lib.hid hstep
  clear hstep
  by_cases hz : e1 = 0
  · subst hz
    have HT : dirsync s = (0, { s1 with sdir := s1.dir, pend := [] }) := by simp [dirsync, hst]
    rw [HT]
    clear e0 HT hst
    go_enter Try.func36, Try.ntmps36
    go_wp2_with fail
    refine HS.out.mono ?_
    rintro e w1 ⟨rfl, hd, ht⟩
    obtain ⟨⟨d0, d1, d2, d3, d4, d5, d6, d7⟩, hf', hlt'⟩ := cells8 hd.blk
    go_wp2_with (go_at_call 34; refine (clone_ok _ _ _ _ hd.dir).mono ?_; rintro e w2 ⟨rfl, hd2, hb2, hlt2⟩; obtain ⟨⟨y0, y1, y2, y3, y4, y5, y6, y7⟩, yf, yl⟩ := cells8 (below_heap hb2 hd.blk))
    go_ret
    have r2 := hd.below hb2
    refine ⟨rfl, ⟨_, DiskRep.syncTurn (S' := Grow S w) hd (fun _ hs => .inl hs) w1.heap.size ?_ (Nat.le_refl _) (.inr ht.size) ?_ ?_⟩, ?_⟩
    · intro k o ho hk
      rw [Below.heap_setCell _ _ _ _ hk, Below.heap_setCell _ _ _ _ hk]
      exact below_heap hb2 ho
    · refine hd2.of_heap ?_
      have hne : w1.heap.size ≠ db := by omega
      rw [Below.heap_setCell _ _ _ _ hne, Below.heap_setCell _ _ _ _ hne]
    · rw [heap_setCell8 (heap_setCell8 r2.blk 3 _) 4 _]
      rfl
    · exact (((ht.mono (fun k _ e => by rw [e]; exact h.sdb)).trans (Touch.of_below hb2)).set1 db 3 (.inl h.sdb) _).set1 db 4 (.inl h.sdb) _
  · have HT : dirsync s = (e1, s1) := by simp [dirsync, hst, hz]
    rw [HT]
    have b1 : (e1 == 0) = false := beq_eq_false_iff_ne.2 hz
    clear HT e0 hz hst
    go_enter Try.func36, Try.ntmps36
    go_wp2_with fail
    refine HS.out.mono ?_
    rintro e w1 ⟨rfl, hd, ht⟩
    go_wp2
    go_ret
    exact ⟨rfl, ⟨r, hd.keep (fun _ hs => .inl hs) (fun _ _ _ => rfl)⟩, ht.mono (fun k _ e => by rw [e]; exact h.sdb)⟩
end Go.Proofs.Ythdncdhgnoggkaa
