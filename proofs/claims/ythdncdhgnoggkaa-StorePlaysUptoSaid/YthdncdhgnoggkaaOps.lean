/-
  The contracts of a disk's Fsync, Rename, Remove.
  Conditions: the disk lies in blocks of S; what is pending is short enough for its slice.
-/
import Derived.Test.YthdncdhgnoggkaaCreate
set_option linter.unusedSimpArgs false
set_option linter.unusedVariables false
namespace Go.Proofs.Ythdncdhgnoggkaa
open Go.RowKit

theorem find_in {l : Dir} {n : ByteArray} {i : Nat} (h : find l n = some i) : ∃ p ∈ l, p.2 = i := by
  induction l with
  | nil => cases h
  | cons q l ih =>
    unfold find at h
    split at h
    · exact ⟨q, by simp, by simpa using h⟩
    · obtain ⟨p, hp, e⟩ := ih h
      exact ⟨p, by simp [hp], e⟩

theorem there_cases (ok : Bool) (n : ByteArray) (s : Dk) : (∃ i, there ok n s = (0, some i, (step ok s).2) ∧ find (step ok s).2.dir n = some i) ∨ (∃ e, e ≠ 0 ∧ there ok n s = (e, none, (step ok s).2)) := by
  unfold there
  dsimp only
  by_cases h : (step ok s).1 = 0
  · rw [if_pos h]
    cases hf : find (step ok s).2.dir n with
    | none => exact .inr ⟨63, by decide, rfl⟩
    | some i => exact .inl ⟨i, rfl, rfl⟩
  · rw [if_neg h]
    exact .inr ⟨_, h, rfl⟩

/-- One file's block is other than it was. -/
theorem DiskRep.fileTurn {S S' : Nat → Prop} {w w' : World} {db : Nat} {s : Dk} {r : Rep} (h : DiskRep S w db s r) (hS : ∀ k, S k → S' k) (i : Nat) (f f' : Fil) (hf : s.files[i]? = some f) (nv sv : Value)
    (hk : ∀ k o, w.heap[k]? = some o → k ≠ fileB r.fb i → w'.heap[k]? = some o) (hb : w'.heap[fileB r.fb i]? = some (.cells #[nv, sv] 78 (0, 0)))
    (hn : BytesIn S' w' nv f'.now) (hsv : BytesIn S' w' sv f'.safe) : DiskRep S' w' db { s with files := s.files.set i f' } r := by
  have hi : i < r.fb.length := by rw [h.fbl]; exact (List.getElem?_eq_some_iff.1 hf).1
  obtain ⟨b, nv0, sv0, g1, g2, g3, _, _⟩ := h.files i f hf
  have hbe : fileB r.fb i = b := by unfold fileB; rw [List.getD_eq_getElem?_getD, g1]; rfl
  rw [hbe] at hk hb
  have hk' : ∀ k o, w.heap[k]? = some o → et o ≠ some 78 → w'.heap[k]? = some o := fun k o ho h1 => hk k o ho (fun e => by
    rw [e, g3] at ho
    cases ho
    exact h1 rfl)
  have hm : ∀ {b : Nat} {es : Array MapEntry} {c : Nat}, w.heap[b]? = some (.map es c) → w'.heap[b]? = w.heap[b]? := fun hb => (hk' _ _ hb (by simp [et])).trans hb.symm
  exact { sdb := hS _ h.sdb, blk := hk' _ _ h.blk (by simp [et]), fbl := by simp [h.fbl], fbn := h.fbn,
          rows := by
            show w'.ownsRow 0 73 1 r.fv (s.files.set i f').length _
            rw [List.length_set]
            exact own_keep h.rows (fun k o ho _ he => hk' k o ho (by rw [he]; simp)), rowS := fun k e => hS _ (h.rowS k e),
          files := by
            intro j fj hj
            by_cases e : i = j
            · subst e
              have hlt : i < s.files.length := (List.getElem?_eq_some_iff.1 hf).1
              have : fj = f' := by
                rw [List.getElem?_set_self hlt] at hj
                exact (Option.some.inj hj).symm
              subst this
              exact ⟨b, nv, sv, g1, hS _ g2, hb, hn, hsv⟩
            · have hj' : s.files[j]? = some fj := by
                rw [List.getElem?_set_ne e] at hj
                exact hj
              obtain ⟨b2, nv2, sv2, q1, q2, q3, q4, q5⟩ := h.files j fj hj'
              have hne : b2 ≠ b := fun eb => by
                subst eb
                have h1 := (List.getElem?_eq_some_iff.1 g1)
                have h2 := (List.getElem?_eq_some_iff.1 q1)
                obtain ⟨l1, e1⟩ := h1
                obtain ⟨l2, e2⟩ := h2
                have hp := List.pairwise_iff_getElem.1 h.fbn
                rcases Nat.lt_or_gt_of_ne e with hij | hij
                · exact hp i j l1 l2 hij (e1.trans e2.symm)
                · exact hp j i l2 l1 hij (e2.trans e1.symm)
              exact ⟨b2, nv2, sv2, q1, hS _ q2, hk _ _ q3 hne, q4.keep hS (fun k o ho _ he => hk' k o ho (by rw [he]; simp)), q5.keep hS (fun k o ho _ he => hk' k o ho (by rw [he]; simp))⟩,
          sdB := hS _ h.sdB, dir := h.dir.of_heap (by obtain ⟨es, c, hh, _⟩ := h.dir; exact hm hh), ssB := hS _ h.ssB,
          sdir := h.sdir.of_heap (by obtain ⟨es, c, hh, _⟩ := h.sdir; exact hm hh), ne1 := h.ne1,
          pend := own_keep h.pend (fun k o ho _ he => hk' k o ho (by rw [he]; simp)), pendS := fun k e => hS _ (h.pendS k e),
          plan := h.plan.keep hS (fun k e => by
            have hp := h.plan
            rw [e] at hp
            obtain ⟨_, es, c, hh, _⟩ := hp
            exact hm hh), ne2 := h.ne2, ne3 := h.ne3,
          inD := fun p hp => by have := h.inD p hp; simp; omega, inS := fun p hp => by have := h.inS p hp; simp; omega, inP := fun e he i hi => by have := h.inP e he i hi; simp; omega }

theorem modify_set {α : Type} (l : List α) (i : Nat) (g : α → α) (x : α) (h : l[i]? = some x) : l.modify i g = l.set i (g x) := by
  induction l generalizing i with
  | nil => simp at h
  | cons a l ih =>
    cases i with
    | zero => simp at h; subst h; simp
    | succ i => simp at h ⊢; exact ih i h

/-- The file of a name that is there. -/
theorem DiskRep.fileAt {S : Nat → Prop} {w : World} {db : Nat} {s : Dk} {r : Rep} (h : DiskRep S w db s r) {n : ByteArray} {i : Nat} (hi : find s.dir n = some i) :
    ∃ f nv sv, s.files[i]? = some f ∧ S (fileB r.fb i) ∧ w.heap[fileB r.fb i]? = some (.cells #[nv, sv] 78 (0, 0)) ∧ BytesIn S w nv f.now ∧ BytesIn S w sv f.safe := by
  obtain ⟨p, hp, e⟩ := find_in hi
  have hlt := h.inD p hp
  rw [e] at hlt
  obtain ⟨b, nv, sv, h1, h2, h3, h4, h5⟩ := h.files i _ (List.getElem?_eq_getElem hlt)
  have hbe : fileB r.fb i = b := by unfold fileB; rw [List.getD_eq_getElem?_getD, h1]; rfl
  exact ⟨_, nv, sv, List.getElem?_eq_getElem hlt, hbe ▸ h2, hbe ▸ h3, h4, h5⟩

theorem BytesIn.sl {S : Nat → Prop} {w : World} {v : Value} {xs : List Int} (h : BytesIn S w v xs) : ∃ A c, v = .slice A xs.length c := by
  obtain ⟨A, c, e, _⟩ := h
  exact ⟨A, c, e⟩

set_option maxRecDepth 100000 in
set_option maxHeartbeats 2000000 in
theorem fsync_ok (S : Nat → Prop) (db : Nat) (s : Dk) (r : Rep) (n : ByteArray) (w : World) (h : DiskRep S w db s r) (hn : n.size ≤ 9223372036854775807) :
    Calls Try.prog 59 #[fptr db, .string n] w fun e w' => e = .returned (.int .i64 (fsync n s).1) ∧ Disk (Grow S w) w' db (fsync n s).2 ∧ Touch S w w' := by
  have hlt := (cells8 h.blk).2.2
  have h0 : DiskRep S (w.alloc (.cells #[.string n] 9)) db s r := h.below ((Below.refl _ _).alloc (Nat.le_refl _) _)
  have hthere := there_ok S db (some ⟨w.heap.size, 0, none⟩) 1 1 n [] s r _ h0 (names1 w n) (by simpa using hn) (fun b o e => by cases e; omega)
  have hall : [n].all okName = okName n := by simp
  rw [hall] at hthere
  unfold fptr at hthere ⊢
  rcases there_cases (okName n) n s with ⟨i, ht, hfd⟩ | ⟨e1, hz, ht⟩
  · rw [ht] at hthere
    have HT : fsync n s = (0, { (step (okName n) s).2 with files := (step (okName n) s).2.files.modify i (fun f => { f with safe := f.now }) }) := by simp [fsync, ht]
    rw [HT]
    have HF := Lib.hid hfd
    have hthere2 : Calls Try.prog 61 #[.pointer (some ⟨db, 0, none⟩), .slice (some ⟨w.heap.size, 0, none⟩) 1 1] (w.alloc (.cells #[.string n] 9)) (fun e w' => e = .returned (.tuple #[.pointer (some ⟨fileB r.fb i, 0, none⟩), .int .i64 0]) ∧ DiskRep S w' db (step (okName n) s).2 r ∧ Touch (fun k => k = db) (w.alloc (.cells #[.string n] 9)) w') := hthere
    have HTH := Lib.hid hthere2
    clear HT hfd hthere hthere2 ht hall
    generalize (step (okName n) s).2 = s1 at HF HTH ⊢
    go_enter Try.func59, Try.ntmps59
    go_wp2_with fail
    refine HTH.out.mono ?_
    rintro e w1 ⟨rfl, hd, ht⟩
    obtain ⟨f, nv, sv, q1, q2, q3, q4, q5⟩ := hd.fileAt HF.out
    have Q1 := Lib.hid q1
    clear q1
    obtain ⟨A, c, rfl⟩ := q4.sl
    obtain ⟨⟨x0, x1⟩, xf, xl⟩ := cells2 q3
    go_wp2
    go_ret
    have hne5 : ∀ k o, w1.heap[k]? = some o → S k → et o = some 5 → (w1.setCell ⟨fileB r.fb i, 1, none⟩ (.slice A f.now.length c)).heap[k]? = some o := fun k o ho _ he => by
      rw [Below.heap_setCell _ _ _ _ (fun e => by
        rw [show k = fileB r.fb i from e, q3] at ho
        cases ho
        cases he)]
      exact ho
    refine ⟨rfl, ⟨r, ?_⟩, (((Touch.refl S w).alloc _).trans (ht.mono (fun k _ e => Or.inl (by rw [e]; exact h.sdb)))).set1 _ 1 (.inl q2) _⟩
    rw [modify_set _ _ _ _ Q1.out]
    exact hd.fileTurn (S' := Grow S w) (w' := w1.setCell ⟨fileB r.fb i, 1, none⟩ (.slice A f.now.length c)) (fun _ hs => .inl hs) i f { f with safe := f.now } Q1.out (.slice A f.now.length c) (.slice A f.now.length c)
      (fun k o ho hk => by rw [Below.heap_setCell _ _ _ _ hk]; exact ho) (heap_setCell8 q3 1 _) (q4.keep (fun _ hs => .inl hs) hne5) (q4.keep (fun _ hs => .inl hs) hne5)
  · rw [ht] at hthere
    have HT : fsync n s = (e1, (step (okName n) s).2) := by simp [fsync, ht]
    rw [HT]
    have HTH := Lib.hid hthere
    have b1 : (e1 == 0) = false := beq_eq_false_iff_ne.2 hz
    clear HT hthere ht hall hz
    dsimp only at HTH
    go_enter Try.func59, Try.ntmps59
    go_wp2_with fail
    refine HTH.out.mono ?_
    rintro e w1 ⟨rfl, hd, ht⟩
    go_wp2
    go_ret
    exact ⟨rfl, ⟨r, hd.keep (fun _ hs => .inl hs) (fun _ _ _ => rfl)⟩, ((Touch.refl S w).alloc _).trans (ht.mono (fun k _ e => Or.inl (by rw [e]; exact h.sdb)))⟩

theorem names2 (w : World) (n o : ByteArray) : StrsAt (w.alloc (.cells #[.string n, .string o] 9)) (some ⟨w.heap.size, 0, none⟩) 2 [n, o] :=
  ⟨rfl, by simp, fun _ => ⟨w.heap.size, 0, rfl, fun j hj => by
    match j, hj with
    | 0, _ => simp
    | 1, _ => simp⟩⟩

set_option maxRecDepth 100000 in
set_option maxHeartbeats 2000000 in
theorem remove_ok (S : Nat → Prop) (db : Nat) (s : Dk) (r : Rep) (n : ByteArray) (w : World) (h : DiskRep S w db s r) (hn : n.size ≤ 9223372036854775807) (hp : s.pend.length ≤ 1099511627776) :
    Calls Try.prog 32 #[fptr db, .string n] w fun e w' => e = .returned (.int .i64 (remove n s).1) ∧ Disk (Grow S w) w' db (remove n s).2 ∧ Touch S w w' := by
  have hlt := (cells8 h.blk).2.2
  have h0 : DiskRep S (w.alloc (.cells #[.string n] 9)) db s r := h.below ((Below.refl _ _).alloc (Nat.le_refl _) _)
  have hthere := there_ok S db (some ⟨w.heap.size, 0, none⟩) 1 1 n [] s r _ h0 (names1 w n) (by simpa using hn) (fun b o e => by cases e; omega)
  have hall : [n].all okName = okName n := by simp
  rw [hall] at hthere
  have hrest := step_rest (okName n) s
  unfold fptr at hthere ⊢
  rcases there_cases (okName n) n s with ⟨i, ht, hfd⟩ | ⟨e1, hz, ht⟩
  · rw [ht] at hthere
    have HT : remove n s = (0, change ⟨n, noName, none⟩ (step (okName n) s).2) := by simp [remove, ht]
    rw [HT]
    have hthere2 : Calls Try.prog 61 #[.pointer (some ⟨db, 0, none⟩), .slice (some ⟨w.heap.size, 0, none⟩) 1 1] (w.alloc (.cells #[.string n] 9)) (fun e w' => e = .returned (.tuple #[.pointer (some ⟨fileB r.fb i, 0, none⟩), .int .i64 0]) ∧ DiskRep S w' db (step (okName n) s).2 r ∧ Touch (fun k => k = db) (w.alloc (.cells #[.string n] 9)) w') := hthere
    have HTH := Lib.hid hthere2
    have hp1 : (step (okName n) s).2.pend.length ≤ 1099511627776 := by rw [hrest.2.1]; exact hp
    clear HT hfd hthere hthere2 ht hall hrest
    generalize (step (okName n) s).2 = s1 at HTH hp1 ⊢
    go_enter Try.func32, Try.ntmps32
    go_wp2_with fail
    refine HTH.out.mono ?_
    rintro e w1 ⟨rfl, hd, ht⟩
    go_wp2_with (go_at_call 50; refine (change_ok S db s1 r n noName none _ hd (fun i hi => by cases hi) hp1).mono ?_; rintro e w2 ⟨rfl, hD, ht2⟩)
    go_ret
    exact ⟨rfl, hD.mono (fun k hk => hk.elim .inl (fun h => .inr (by have := ht.size; simp at this; omega))), (((Touch.refl S w).alloc _).trans (ht.mono (fun k _ e => Or.inl (by rw [e]; exact h.sdb)))).trans (ht2.mono (fun k _ hs => .inl hs))⟩
  · rw [ht] at hthere
    have HT : remove n s = (e1, (step (okName n) s).2) := by simp [remove, ht]
    rw [HT]
    have HTH := Lib.hid hthere
    have b1 : (e1 == 0) = false := beq_eq_false_iff_ne.2 hz
    clear HT hthere ht hall hz hrest
    dsimp only at HTH
    go_enter Try.func32, Try.ntmps32
    go_wp2_with fail
    refine HTH.out.mono ?_
    rintro e w1 ⟨rfl, hd, ht⟩
    go_wp2
    go_ret
    exact ⟨rfl, ⟨r, hd.keep (fun _ hs => .inl hs) (fun _ _ _ => rfl)⟩, ((Touch.refl S w).alloc _).trans (ht.mono (fun k _ e => Or.inl (by rw [e]; exact h.sdb)))⟩

set_option maxRecDepth 100000 in
set_option maxHeartbeats 2000000 in
theorem rename_ok (S : Nat → Prop) (db : Nat) (s : Dk) (r : Rep) (n o : ByteArray) (w : World) (h : DiskRep S w db s r) (hn : n.size ≤ 9223372036854775807) (ho : o.size ≤ 9223372036854775807) (hp : s.pend.length ≤ 1099511627776) :
    Calls Try.prog 60 #[fptr db, .string n, .string o] w fun e w' => e = .returned (.int .i64 (rename n o s).1) ∧ Disk (Grow S w) w' db (rename n o s).2 ∧ Touch S w w' := by
  have hlt := (cells8 h.blk).2.2
  have h0 : DiskRep S (w.alloc (.cells #[.string n, .string o] 9)) db s r := h.below ((Below.refl _ _).alloc (Nat.le_refl _) _)
  have hthere := there_ok S db (some ⟨w.heap.size, 0, none⟩) 2 2 n [o] s r _ h0 (names2 w n o) (by intro s hs; simp at hs; rcases hs with rfl | rfl <;> assumption) (fun b o e => by cases e; omega)
  have hall : [n, o].all okName = (okName n && okName o) := by simp
  rw [hall] at hthere
  have hrest := step_rest (okName n && okName o) s
  unfold fptr at hthere ⊢
  rcases there_cases (okName n && okName o) n s with ⟨i, ht, hfd⟩ | ⟨e1, hz, ht⟩
  · rw [ht] at hthere
    have HT : rename n o s = (0, change ⟨n, o, some i⟩ (step (okName n && okName o) s).2) := by simp [rename, ht]
    rw [HT]
    have hthere2 : Calls Try.prog 61 #[.pointer (some ⟨db, 0, none⟩), .slice (some ⟨w.heap.size, 0, none⟩) 2 2] (w.alloc (.cells #[.string n, .string o] 9)) (fun e w' => e = .returned (.tuple #[.pointer (some ⟨fileB r.fb i, 0, none⟩), .int .i64 0]) ∧ DiskRep S w' db (step (okName n && okName o) s).2 r ∧ Touch (fun k => k = db) (w.alloc (.cells #[.string n, .string o] 9)) w') := hthere
    have HTH := Lib.hid hthere2
    have HF := Lib.hid hfd
    have hp1 : (step (okName n && okName o) s).2.pend.length ≤ 1099511627776 := by rw [hrest.2.1]; exact hp
    clear HT hfd hthere hthere2 ht hall hrest
    generalize (step (okName n && okName o) s).2 = s1 at HTH hp1 HF ⊢
    go_enter Try.func60, Try.ntmps60
    go_wp2_with fail
    refine HTH.out.mono ?_
    rintro e w1 ⟨rfl, hd, ht⟩
    have hin : ∀ j, some i = some j → j < s1.files.length := fun j hj => by
      cases hj
      obtain ⟨p, hp, e⟩ := find_in HF.out
      rw [← e]
      exact hd.inD p hp
    have hch := change_ok S db s1 r n o (some i) _ hd hin hp1
    have hch2 : Calls Try.prog 50 #[.pointer (some ⟨db, 0, none⟩), .agg #[.string n, .string o, .pointer (some ⟨fileB r.fb i, 0, none⟩)]] w1 (fun e w' => e = .returned (.tuple #[]) ∧ Disk (Grow S w1) w' db (change ⟨n, o, some i⟩ s1) ∧ Touch S w1 w') := hch
    have HCH := Lib.hid hch2
    clear hch hch2 hin
    go_wp2_with (go_at_call 50; refine HCH.out.mono ?_; rintro e w2 ⟨rfl, hD, ht2⟩)
    go_ret
    exact ⟨rfl, hD.mono (fun k hk => hk.elim .inl (fun h => .inr (by have := ht.size; simp at this; omega))), (((Touch.refl S w).alloc _).trans (ht.mono (fun k _ e => Or.inl (by rw [e]; exact h.sdb)))).trans (ht2.mono (fun k _ hs => .inl hs))⟩
  · rw [ht] at hthere
    have HT : rename n o s = (e1, (step (okName n && okName o) s).2) := by simp [rename, ht]
    rw [HT]
    have HTH := Lib.hid hthere
    have b1 : (e1 == 0) = false := beq_eq_false_iff_ne.2 hz
    clear HT hthere ht hall hz hrest
    dsimp only at HTH
    go_enter Try.func60, Try.ntmps60
    go_wp2_with fail
    refine HTH.out.mono ?_
    rintro e w1 ⟨rfl, hd, ht⟩
    go_wp2
    go_ret
    exact ⟨rfl, ⟨r, hd.keep (fun _ hs => .inl hs) (fun _ _ _ => rfl)⟩, ((Touch.refl S w).alloc _).trans (ht.mono (fun k _ e => Or.inl (by rw [e]; exact h.sdb)))⟩
end Go.Proofs.Ythdncdhgnoggkaa
