/-
  The contracts of entry.to and of a disk's change.
  Conditions: the disk lies in blocks of S; the names that are pending are few enough for their slice.
-/
import Derived.Test.YthdncdhgnoggkaaThere
import Derived.StillTailTactics
import Derived.Deep.RegionHeld3
import Derived.Deep.RegionLaw
import Derived.Deep.AppendLies
set_option linter.unusedSimpArgs false
set_option linter.unusedVariables false
namespace Go.Proofs.Ythdncdhgnoggkaa
open Go.RowKit

theorem Touch.putObj1 {S : Nat → Prop} {a w : World} (h : Touch S a w) (b : Nat) (hp : S b ∨ a.heap.size ≤ b) (o : Obj) : Touch S a (w.putObj b o) := h.putObj hp o

theorem cells3 {w : World} {b : Nat} {a0 a1 a2 : Value} {t : TypeId} (h : w.heap[b]? = some (.cells #[a0, a1, a2] t (0, 0))) :
    (w.cell? ⟨b, 0, none⟩ = some a0 ∧ w.cell? ⟨b, 1, none⟩ = some a1 ∧ w.cell? ⟨b, 2, none⟩ = some a2) ∧ (∀ k, w.frozen? ⟨b, k, none⟩ = false) ∧ b < w.heap.size := by
  refine ⟨?_, fun k => ?_, (Array.getElem?_eq_some_iff.1 h).1⟩
  · simp [World.cell?, h]
  · simp [World.frozen?, h]
theorem cells2 {w : World} {b : Nat} {a0 a1 : Value} {t : TypeId} (h : w.heap[b]? = some (.cells #[a0, a1] t (0, 0))) :
    (w.cell? ⟨b, 0, none⟩ = some a0 ∧ w.cell? ⟨b, 1, none⟩ = some a1) ∧ (∀ k, w.frozen? ⟨b, k, none⟩ = false) ∧ b < w.heap.size := by
  refine ⟨?_, fun k => ?_, (Array.getElem?_eq_some_iff.1 h).1⟩
  · simp [World.cell?, h]
  · simp [World.frozen?, h]

set_option maxHeartbeats 1000000 in
theorem to_ok (b : Nat) (fb : List Nat) (l : Dir) (g n : ByteArray) (f : Option Nat) (w : World) (h : DirAt w b (ofFile fb) l) :
    Calls Try.prog 33 #[.agg #[.string g, .string n, f.elim (.pointer none) (ofFile fb)], .map (some b)] w fun e w' => e = .returned (.tuple #[]) ∧ DirAt w' b (ofFile fb) (toDir l ⟨g, n, f⟩) ∧ Touch (fun k => k = b) w w' := by
  have hlt := h.lt
  have key : ∀ v o', ((w.alloc (.cells #[.string g, .string n, v] 75)).putObj b o').heap[w.heap.size]? = some (.cells #[.string g, .string n, v] 75 (0, 0)) ∧ Touch (fun k => k = b) w ((w.alloc (.cells #[.string g, .string n, v] 75)).putObj b o') :=
    fun v o' => ⟨(World.putObj_heap_other (by omega)).trans (World.alloc_heap_new w _), ((Touch.refl (fun k => k = b) w).alloc _).putObj1 b (.inl rfl) o'⟩
  have KEY := Lib.hid key
  clear key
  cases f with
  | none =>
    go_enter Try.func33, Try.ntmps33
    go_wp2_with (at_delete; refine wpList_delete_dir rfl _ _ 64 9 73 rfl Try.underlying64 Try.underlying9 (h.alloc _) rfl g rfl ?_; intro o' hd; have hk := KEY.out (.pointer none) o'; obtain ⟨⟨x0, x1, x2⟩, xf, xl⟩ := cells3 hk.1)
    go_end0
    exact ⟨rfl, hd, hk.2⟩
  | some i =>
    show Calls Try.prog 33 #[.agg #[.string g, .string n, .pointer (some ⟨fileB fb i, 0, none⟩)], .map (some b)] w _
    go_enter Try.func33, Try.ntmps33
    go_wp2_with (first
      | (at_delete; refine wpList_delete_dir rfl _ _ 64 9 73 rfl Try.underlying64 Try.underlying9 (h.alloc _) rfl g rfl ?_; intro o' hd; have hk := KEY.out (.pointer (some ⟨fileB fb i, 0, none⟩)) o'; obtain ⟨⟨x0, x1, x2⟩, xf, xl⟩ := cells3 hk.1)
      | (at_mapUpdate; refine wpList_update_dir rfl _ _ _ 64 9 73 rfl Try.underlying64 Try.underlying9 hd rfl n i rfl rfl ?_; intro o2 hd2))
    go_end0
    exact ⟨rfl, hd2, hk.2.putObj1 b (.inl rfl) o2⟩

theorem own_ne {w : World} {base : Nat} {e : TypeId} {size : Nat} {v : Value} {n : Nat} {xs : List Value} (h : w.ownsRow base e size v n xs) {b : Nat} {o : Obj} (hb : w.heap[b]? = some o) (he : et o ≠ some e) : v.ownBlock ≠ some b := by
  rcases h.2 with ⟨rfl, _⟩ | ⟨g, cap, cur, rfl, _, hh, _⟩
  · simp [Value.ownBlock]
  · intro hk
    have : g = b := by simpa [Value.ownBlock] using hk
    subst this
    rw [hh] at hb
    cases hb
    exact he rfl
theorem grown_heap {w w' : World} {row : Option Nat} (hg : w.grownBy w' row) {k : Nat} {o : Obj} (h : w.heap[k]? = some o) (hne : row ≠ some k) : w'.heap[k]? = some o :=
  (hg.block k (Array.getElem?_eq_some_iff.1 h).1 (fun e => hne e.symm)).trans h
theorem alloc_heap {w : World} {k : Nat} {o : Obj} (h : w.heap[k]? = some o) (x : Obj) : (w.alloc x).heap[k]? = some o :=
  (Below.heap_alloc _ _ _ (Array.getElem?_eq_some_iff.1 h).1).trans h
theorem cells_new3 (w : World) (v0 v1 v2 : Value) (t : TypeId) : ∀ j u, [v0, v1, v2][j]? = some u → (w.alloc (.cells #[v0, v1, v2] t)).cell? ((⟨w.heap.size, 0, none⟩ : Addr).add j) = some u := by
  intro j u h
  match j, h with
  | 0, h => simp at h; subst h; simp [Addr.add]
  | 1, h => simp at h; subst h; simp [Addr.add]
  | 2, h => simp at h; subst h; simp [Addr.add]
theorem info75 : (Try.prog.info? 75).map (fun i => (i.zero, i.size, i.bytes)) = some (some (.agg #[.string ⟨#[]⟩, .string ⟨#[]⟩, .pointer none]), 3, 40) := by kernel_rfl

/-- The directory's map alone is other than it was. -/
theorem DiskRep.dirTurn {S : Nat → Prop} {w w' : World} {db : Nat} {s : Dk} {r : Rep} (h : DiskRep S w db s r) (ht : Touch (fun k => k = r.dB) w w') {l : Dir} (hd : DirAt w' r.dB (ofFile r.fb) l) (hin : ∀ p ∈ l, p.2 < s.files.length) :
    DiskRep S w' db { s with dir := l } r := by
  have hk : ∀ k o t, w.heap[k]? = some o → et o = some t → w'.heap[k]? = some o := fun k o t ho he => ht.heap ho (fun e => by
    rw [e] at ho
    obtain ⟨es, c, hh, _⟩ := h.dir
    rw [hh] at ho
    cases ho
    cases he)
  exact { sdb := h.sdb, blk := hk _ _ _ h.blk rfl, fbl := h.fbl, fbn := h.fbn, rows := own_keep h.rows (fun k o ho _ he => hk k o _ ho he), rowS := h.rowS,
          files := h.files.keep (fun _ hs => hs) (fun k o ho _ he => by rcases he with he | he <;> exact hk k o _ ho he), sdB := h.sdB, dir := hd, ssB := h.ssB,
          sdir := h.sdir.of_heap (ht.block _ h.sdir.lt (fun e => h.ne1 e.symm)), ne1 := h.ne1, pend := own_keep h.pend (fun k o ho _ he => hk k o _ ho he), pendS := h.pendS,
          plan := h.plan.keep (fun _ hs => hs) (fun k e => by
            have hp := h.plan
            rw [e] at hp
            exact ht.block k hp.2.lt (fun e2 => h.ne2 (by rw [e, e2]))), ne2 := h.ne2, ne3 := h.ne3, inD := hin, inS := h.inS, inP := h.inP }

/-- What is pending has been written down anew; the disk's block holds it. -/
theorem DiskRep.pendTurn {S S' : Nat → Prop} {w w' : World} {db : Nat} {s : Dk} {r : Rep} (h : DiskRep S w db s r) (hS : ∀ k, S k → S' k) (v : Value) (p : List Ent)
    (hk : ∀ k o, w.heap[k]? = some o → k ≠ db → r.pv.ownBlock ≠ some k → w'.heap[k]? = some o)
    (hb : w'.heap[db]? = some (.cells #[.int .i64 s.room, r.fv, .map (some r.dB), .map (some r.sB), v, .map r.plan, .int .i64 s.steps, .bool s.down] 69 (0, 0)))
    (hp : w'.ownsRow 0 75 3 v p.length (p.flatMap (entCells r.fb))) (hpS : ∀ k, v.ownBlock = some k → S' k) (hin : ∀ e ∈ p, ∀ i, e.f = some i → i < s.files.length) :
    DiskRep S' w' db { s with pend := p } { r with pv := v } := by
  have hk' : ∀ k o, w.heap[k]? = some o → et o ≠ some 69 → et o ≠ some 75 → w'.heap[k]? = some o := fun k o ho h1 h2 => hk k o ho (fun e => by
    rw [e, h.blk] at ho
    cases ho
    exact h1 rfl) (fun e => own_ne h.pend ho h2 e)
  have hm : ∀ {b : Nat} {es : Array MapEntry} {c : Nat}, w.heap[b]? = some (.map es c) → w'.heap[b]? = w.heap[b]? := fun hb => (hk' _ _ hb (by simp [et]) (by simp [et])).trans hb.symm
  exact { sdb := hS _ h.sdb, blk := hb, fbl := h.fbl, fbn := h.fbn, rows := own_keep h.rows (fun k o ho _ he => hk' k o ho (by rw [he]; simp) (by rw [he]; simp)), rowS := fun k e => hS _ (h.rowS k e),
          files := h.files.keep hS (fun k o ho _ he => hk' k o ho (by rcases he with he | he <;> rw [he] <;> simp) (by rcases he with he | he <;> rw [he] <;> simp)), sdB := hS _ h.sdB,
          dir := h.dir.of_heap (by obtain ⟨es, c, hh, _⟩ := h.dir; exact hm hh), ssB := hS _ h.ssB,
          sdir := h.sdir.of_heap (by obtain ⟨es, c, hh, _⟩ := h.sdir; exact hm hh), ne1 := h.ne1, pend := hp, pendS := hpS,
          plan := h.plan.keep hS (fun k e => by
            have hp := h.plan
            rw [e] at hp
            obtain ⟨_, es, c, hh, _⟩ := hp
            exact hm hh), ne2 := h.ne2, ne3 := h.ne3, inD := h.inD, inS := h.inS, inP := hin }

theorem erase_sub (n : ByteArray) (l : Dir) : ∀ p ∈ erase n l, p ∈ l := by
  induction l with
  | nil => simp [erase]
  | cons q l ih =>
    intro p hp
    unfold erase at hp
    split at hp
    · simp [hp]
    · simp only [List.mem_cons] at hp ⊢
      rcases hp with hp | hp
      · exact .inl hp
      · exact .inr (ih p hp)
theorem put_sub (n : ByteArray) (i : Nat) (l : Dir) : ∀ p ∈ put l n i, p ∈ l ∨ p.2 = i := by
  induction l with
  | nil => simp [put]
  | cons q l ih =>
    intro p hp
    unfold put at hp
    split at hp
    · simp only [List.mem_cons] at hp ⊢
      rcases hp with hp | hp
      · exact .inr (by rw [hp])
      · exact .inl (.inr hp)
    · simp only [List.mem_cons] at hp ⊢
      rcases hp with hp | hp
      · exact .inl (.inl hp)
      · rcases ih p hp with h | h
        · exact .inl (.inr h)
        · exact .inr h
theorem toDir_in {l : Dir} {e : Ent} {n : Nat} (h : ∀ p ∈ l, p.2 < n) (he : ∀ i, e.f = some i → i < n) : ∀ p ∈ toDir l e, p.2 < n := by
  intro p hp
  unfold toDir at hp
  split at hp
  · exact h p (erase_sub _ _ p hp)
  · rename_i i hi
    rcases put_sub _ _ _ p hp with hp | hp
    · exact h p (erase_sub _ _ p hp)
    · rw [hp]; exact he i hi

theorem Touch.grownBy1 {S : Nat → Prop} {a w w' : World} (h : Touch S a w) {row : Option Nat} (hg : w.grownBy w' row) (hr : ∀ k, row = some k → S k ∨ a.heap.size ≤ k) : Touch S a w' := h.grownBy hg hr

theorem change_rep {S : Nat → Prop} {db : Nat} {s : Dk} {r : Rep} {g n : ByteArray} {f : Option Nat} {w w1 w2 : World} {vp : Option Addr} {g1 cap1 m : Nat} (h : DiskRep S w db s r) (hf : ∀ i, f = some i → i < s.files.length)
    (hv : Value.pointer vp = f.elim (.pointer none) (ofFile r.fb)) (hd1 : DirAt w1 r.dB (ofFile r.fb) (toDir s.dir ⟨g, n, f⟩))
    (ht1 : Touch (fun k => k = r.dB) ((w.alloc (.cells #[.string g, .string n, .pointer vp] 75)).drewN m) w1)
    (hown2 : w2.ownsRow 0 75 3 (.slice (some ⟨g1, 0, none⟩) (s.pend.length + 1) cap1) (s.pend.length + 1) (s.pend.flatMap (entCells r.fb) ++ [.string g, .string n, .pointer vp]))
    (hg2 : (w1.alloc (.cells #[.string g, .string n, .pointer vp] 75)).drew.grownBy w2 r.pv.ownBlock)
    (hat2 : r.pv.ownBlock = some g1 ∨ g1 = (w1.alloc (.cells #[.string g, .string n, .pointer vp] 75)).drew.heap.size) :
    Disk (Grow S w) (w2.setCell ⟨db, 4, none⟩ (.slice (some ⟨g1, 0, none⟩) (s.pend.length + 1) cap1)) db (change ⟨g, n, f⟩ s) ∧ Touch S w (w2.setCell ⟨db, 4, none⟩ (.slice (some ⟨g1, 0, none⟩) (s.pend.length + 1) cap1)) := by
  have hB : Below w.heap.size w ((w.alloc (.cells #[.string g, .string n, .pointer vp] 75)).drewN m) := ⟨rfl, rfl, rfl, by show w.heap.size ≤ (w.alloc _).heap.size; simp, fun k hk => Below.heap_alloc _ _ _ hk⟩
  have r1 := (h.below hB).dirTurn ht1 hd1 (toDir_in h.inD hf)
  have r2 := r1.below (w' := (w1.alloc (.cells #[.string g, .string n, .pointer vp] 75)).drew) ((Below.refl _ _).alloc (Nat.le_refl _) _).drew
  have hsz : w.heap.size ≤ w1.heap.size := Nat.le_trans (by show w.heap.size ≤ (w.alloc _).heap.size; simp) ht1.size
  have hg1 : Grow S w g1 := by
    rcases hat2 with e | e
    · exact .inl (h.pendS _ e)
    · exact .inr (by rw [e]; show w.heap.size ≤ (w1.alloc _).heap.size; simp; omega)
  refine ⟨⟨{ r with pv := .slice (some ⟨g1, 0, none⟩) (s.pend.length + 1) cap1 }, DiskRep.pendTurn (S' := Grow S w) (w' := w2.setCell ⟨db, 4, none⟩ (.slice (some ⟨g1, 0, none⟩) (s.pend.length + 1) cap1)) r2 (fun _ hs => .inl hs) (.slice (some ⟨g1, 0, none⟩) (s.pend.length + 1) cap1) (s.pend ++ [Ent.mk g n f]) ?_ ?_ ?_ ?_ ?_⟩, ?_⟩
  · intro k o ho hk hne
    rw [Below.heap_setCell _ _ _ _ hk]
    exact grown_heap hg2 ho hne
  · exact heap_setCell8 (grown_heap hg2 r2.blk (own_ne r2.pend r2.blk (by simp [et]))) 4 _
  · have hx : entCells r.fb ⟨g, n, f⟩ = [.string g, .string n, .pointer vp] := by simp [entCells, hv]; cases f <;> rfl
    rw [List.length_append, List.flatMap_append]
    simp only [List.flatMap_cons, List.flatMap_nil, List.append_nil, hx, List.length_cons, List.length_nil, Nat.zero_add]
    refine own_keep hown2 (fun k o ho hb he => ?_)
    rw [Below.heap_setCell _ _ _ _ ?_]
    · exact ho
    · intro e
      have := grown_heap hg2 r2.blk (own_ne r2.pend r2.blk (by simp [et]))
      rw [show k = db from e, this] at ho
      cases ho
      cases he
  · intro k hk
    have : g1 = k := by simpa [Value.ownBlock] using hk
    exact this ▸ hg1
  · intro e he i hi
    simp only [List.mem_append, List.mem_singleton] at he
    rcases he with he | he
    · exact h.inP e he i hi
    · subst he; exact hf i hi
  · have t1 : Touch S w w1 := (Touch.of_below (S := S) hB).trans (ht1.mono (fun k _ e => .inl (by rw [e]; exact h.sdB)))
    exact (((t1.alloc _).drew).grownBy hg2 (fun k e => .inl (h.pendS k e))).set1 db 4 (.inl h.sdb) _

set_option maxHeartbeats 1000000 in
theorem change_ok (S : Nat → Prop) (db : Nat) (s : Dk) (r : Rep) (g n : ByteArray) (f : Option Nat) (w : World) (h : DiskRep S w db s r) (hf : ∀ i, f = some i → i < s.files.length) (hp : s.pend.length ≤ 1099511627776) :
    Calls Try.prog 50 #[fptr db, .agg #[.string g, .string n, f.elim (.pointer none) (ofFile r.fb)]] w fun e w' => e = .returned (.tuple #[]) ∧ Disk (Grow S w) w' db (change ⟨g, n, f⟩ s) ∧ Touch S w w' := by
  unfold fptr
  obtain ⟨v, hv⟩ : ∃ v, v = f.elim (.pointer none) (ofFile r.fb) := ⟨_, rfl⟩
  rw [← hv]
  obtain ⟨vp, hvp⟩ : ∃ p, v = .pointer p := by
    subst hv
    cases f with
    | none => exact ⟨none, rfl⟩
    | some i => exact ⟨_, rfl⟩
  subst hvp
  have HV := Lib.hid hv
  clear hv
  have hB : Below w.heap.size w (w.alloc (.cells #[.string g, .string n, .pointer vp] 75)) := (Below.refl _ _).alloc (Nat.le_refl _) _
  have h1 := h.below hB
  obtain ⟨⟨d0, d1, d2, d3, d4, d5, d6, d7⟩, hf', hlt'⟩ := cells8 h1.blk
  obtain ⟨⟨x0, x1, x2⟩, xf, xl⟩ := cells3 (World.alloc_heap_new w (.cells #[.string g, .string n, .pointer vp] 75))
  go_enter Try.func50, Try.ntmps50
  go_wp2_with fail
  have hto := fun nq => to_ok r.dB r.fb s.dir g n f ((w.alloc (.cells #[.string g, .string n, .pointer vp] 75)).drewN nq) (h1.dir.drewN nq)
  rw [← HV.out] at hto
  have HTO := Lib.hid hto
  clear hto
  go_region_with (go_at_call 33; refine (HTO.out 1).mono ?_; rintro e w1 ⟨rfl, hd1, ht1⟩)
  all_goals
    have hne : db ≠ r.dB := fun e => by
      obtain ⟨es, c, hh, _⟩ := h1.dir
      have hb := h1.blk
      rw [e, hh] at hb
      cases hb
    have hne2 : w.heap.size ≠ r.dB := fun e => by
      have := h.dir.lt
      omega
    have hblk1 := ht1.heap (k := db) h1.blk hne
    have hbox1 := ht1.heap (k := w.heap.size) (World.alloc_heap_new w (.cells #[.string g, .string n, .pointer vp] 75)) hne2
    have hpend1 : w1.ownsRow 0 75 3 r.pv s.pend.length (s.pend.flatMap (entCells r.fb)) := own_keep h1.pend (fun k o ho hb he => ht1.heap (k := k) ho (fun e => by
      rw [e] at ho
      obtain ⟨es, c, hh, _⟩ := h1.dir
      rw [hh] at ho
      cases ho
      cases he))
    clear d0 d1 d2 d3 d4 d5 d6 d7 hf' hlt' x0 x1 x2 xf xl HTO
    obtain ⟨⟨d0, d1, d2, d3, d4, d5, d6, d7⟩, hf', hlt'⟩ := cells8 hblk1
    obtain ⟨⟨x0, x1, x2⟩, xf, xl⟩ := cells3 hbox1
    obtain ⟨i0, hi, hz0, hz1, hz2⟩ := info_parts info75
    go_wp2_with fail
    go_region_law (refine step_append_lies _ rfl (.tmp 14) (.tmp 16) 66 rfl 0 75 i0 _ 3 40 Try.underlying66 hi hz0 hz1 hz2 rfl (by decide) r.pv s.pend.length (s.pend.flatMap (entCells r.fb)) (by simp [Act.eval, Act.put]) (hpend1.drew.alloc _) ⟨w1.heap.size, 0, none⟩ 1 1 [.string g, .string n, .pointer vp] (by simp [Act.eval, Act.put]) rfl (cells_new3 _ _ _ _ _) (by simp [Value.oneCell']) (by omega) (by unfold maxLen; omega) (by omega) (Nat.zero_le _) _ rfl (fun g1 cap1 w2 hown2 hg2 hat2 hlt2 => ?_); have hblk2 := grown_heap hg2 (alloc_heap (w := w1.drew) hblk1 _) (own_ne hpend1 hblk1 (by simp [et])); obtain ⟨⟨y0, y1, y2, y3, y4, y5, y6, y7⟩, yf, yl⟩ := cells8 hblk2)
    all_goals
      go_wp2
      go_end0
      exact ⟨rfl, change_rep h hf HV.out hd1 ht1 hown2 hg2 hat2⟩
end Go.Proofs.Ythdncdhgnoggkaa
