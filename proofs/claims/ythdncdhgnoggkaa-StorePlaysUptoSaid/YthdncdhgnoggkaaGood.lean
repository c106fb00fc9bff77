/-
  Which names stand in a disk's directories, and how many (plain; no program).
  No condition.
-/
import Derived.Test.YthdncdhgnoggkaaFit
set_option linter.unusedSimpArgs false
set_option linter.unusedVariables false
namespace Go.Proofs.Ythdncdhgnoggkaa

structure Good (D : Nat) (s : Dk) : Prop where
  dl : s.dir.length ≤ D
  sl : s.sdir.length + s.pend.length ≤ D
  dn : ∀ p ∈ s.dir, p.1.size ≤ 64
  sn : ∀ p ∈ s.sdir, p.1.size ≤ 64
  pn : ∀ e ∈ s.pend, e.name.size ≤ 64

theorem Good.mono {D D' : Nat} {s : Dk} (h : Good D s) (hD : D ≤ D') : Good D' s := ⟨by have := h.dl; omega, by have := h.sl; omega, h.dn, h.sn, h.pn⟩
theorem erase_length (n : ByteArray) (l : Dir) : (erase n l).length ≤ l.length := by
  induction l with
  | nil => exact Nat.le_refl _
  | cons p l ih =>
    unfold erase
    split
    · simp
    · simp; omega
theorem erase_in {n : ByteArray} {l : Dir} {p : ByteArray × Nat} (h : p ∈ erase n l) : p ∈ l := by
  induction l with
  | nil => exact h
  | cons q l ih =>
    unfold erase at h
    split at h
    · exact List.mem_cons_of_mem _ h
    · rcases List.mem_cons.1 h with rfl | h
      · simp
      · exact List.mem_cons_of_mem _ (ih h)
theorem put_length (l : Dir) (n : ByteArray) (i : Nat) : (put l n i).length ≤ l.length + 1 := by
  induction l with
  | nil => simp [put]
  | cons p l ih =>
    unfold put
    split
    · simp
    · simp; omega
theorem put_in {l : Dir} {n : ByteArray} {i : Nat} {p : ByteArray × Nat} (h : p ∈ put l n i) : p ∈ l ∨ p = (n, i) := by
  induction l with
  | nil => simp [put] at h; exact .inr h
  | cons q l ih =>
    unfold put at h
    split at h
    · rcases List.mem_cons.1 h with rfl | h
      · exact .inr rfl
      · exact .inl (List.mem_cons_of_mem _ h)
    · rcases List.mem_cons.1 h with rfl | h
      · exact .inl (by simp)
      · rcases ih h with h | h
        · exact .inl (List.mem_cons_of_mem _ h)
        · exact .inr h
theorem toDir_length (l : Dir) (e : Ent) : (toDir l e).length ≤ l.length + 1 := by
  unfold toDir
  have := erase_length e.gone l
  split
  · omega
  · have := put_length (erase e.gone l) e.name ‹_›
    omega
theorem toDir_names {l : Dir} {e : Ent} (h : ∀ p ∈ l, p.1.size ≤ 64) (he : e.name.size ≤ 64) : ∀ p ∈ toDir l e, p.1.size ≤ 64 := by
  intro p hp
  unfold toDir at hp
  split at hp
  · exact h p (erase_in hp)
  · rcases put_in hp with hp | rfl
    · exact h p (erase_in hp)
    · exact he
theorem foldl_names (ps : List Ent) (l : Dir) (h : ∀ p ∈ l, p.1.size ≤ 64) (he : ∀ e ∈ ps, e.name.size ≤ 64) : (∀ p ∈ ps.foldl toDir l, p.1.size ≤ 64) ∧ (ps.foldl toDir l).length ≤ l.length + ps.length := by
  induction ps generalizing l with
  | nil => exact ⟨h, Nat.le_refl _⟩
  | cons e ps ih =>
    have := ih (toDir l e) (toDir_names h (he e (by simp))) (fun e' h' => he e' (by simp [h']))
    have h2 := toDir_length l e
    refine ⟨this.1, ?_⟩
    have := this.2
    simp at this ⊢
    omega
theorem okName_size {n : ByteArray} (h : okName n = true) : n.size ≤ 64 := by
  unfold okName at h
  simp at h
  exact h.1.2
theorem step_dir (ok : Bool) (s : Dk) : (step ok s).2.dir = s.dir ∧ (step ok s).2.sdir = s.sdir ∧ (step ok s).2.pend = s.pend := by
  have := step_rest ok s
  exact ⟨this.2.2.1, this.2.2.2.1, this.2.1⟩
theorem good_step {D : Nat} {s : Dk} (h : Good D s) (ok : Bool) : Good D (step ok s).2 := by
  obtain ⟨h1, h2, h3⟩ := step_dir ok s
  exact ⟨by rw [h1]; exact h.dl, by rw [h2, h3]; exact h.sl, by rw [h1]; exact h.dn, by rw [h2]; exact h.sn, by rw [h3]; exact h.pn⟩
theorem step_zero {ok : Bool} {s : Dk} (h : (step ok s).1 = 0) : ok = true := by
  unfold step at h
  dsimp only at h
  split at h
  · simp at h
  · split at h
    · simp at h
    · rename_i h2
      simpa using h2
theorem there_some {ok : Bool} {n : ByteArray} {s s1 : Dk} {e : Int} {i : Nat} (h : there ok n s = (e, some i, s1)) : ok = true ∧ s1 = (step ok s).2 := by
  have h1 := there_snd ok n s
  rw [h] at h1
  refine ⟨?_, h1⟩
  unfold there at h
  dsimp only at h
  split at h
  · rename_i h2
    exact step_zero h2
  · simp at h
theorem good_change {D : Nat} {s : Dk} (h : Good D s) {e : Ent} (he : e.name.size ≤ 64) : Good (D + 1) (change e s) := by
  refine ⟨?_, ?_, toDir_names h.dn he, h.sn, ?_⟩
  · have := toDir_length s.dir e
    have := h.dl
    show (toDir s.dir e).length ≤ _
    omega
  · have := h.sl
    show s.sdir.length + (s.pend ++ [e]).length ≤ _
    simp
    omega
  · intro e' h'
    have h'' : e' ∈ s.pend ++ [e] := h'
    simp at h''
    rcases h'' with h'' | rfl
    · exact h.pn e' h''
    · exact he
theorem good_create {D : Nat} {s : Dk} (h : Good D s) (n : ByteArray) : Good (D + 1) (create n s).2 := by
  have h1 := good_step h (okName n)
  unfold create
  dsimp only
  split
  · rename_i hz
    split
    · exact h1.mono (by omega)
    · exact good_change (s := { (step (okName n) s).2 with files := (step (okName n) s).2.files ++ [⟨[], []⟩] }) ⟨h1.dl, h1.sl, h1.dn, h1.sn, h1.pn⟩ (okName_size (step_zero hz))
  · exact h1.mono (by omega)
theorem good_write {D : Nat} {s : Dk} (h : Good D s) (n : ByteArray) (data : List Int) : Good D (write n data s).2 := by
  have h1 := good_step h (okName n)
  unfold write
  split
  · rename_i e i s1 heq
    obtain ⟨_, rfl⟩ := there_some heq
    split
    · exact h1
    · exact ⟨h1.dl, h1.sl, h1.dn, h1.sn, h1.pn⟩
  · rename_i e s1 heq
    have e1 : s1 = (step (okName n) s).2 := by have := there_snd (okName n) n s; rw [heq] at this; exact this
    subst e1
    exact h1
theorem good_fsync {D : Nat} {s : Dk} (h : Good D s) (n : ByteArray) : Good D (fsync n s).2 := by
  have h1 := good_step h (okName n)
  unfold fsync
  split
  · rename_i e i s1 heq
    obtain ⟨_, rfl⟩ := there_some heq
    exact ⟨h1.dl, h1.sl, h1.dn, h1.sn, h1.pn⟩
  · rename_i e s1 heq
    have e1 : s1 = (step (okName n) s).2 := by have := there_snd (okName n) n s; rw [heq] at this; exact this
    subst e1
    exact h1
theorem good_rename {D : Nat} {s : Dk} (h : Good D s) (n o : ByteArray) : Good (D + 1) (rename n o s).2 := by
  have h1 := good_step h (okName n && okName o)
  unfold rename
  split
  · rename_i e i s1 heq
    obtain ⟨hok, rfl⟩ := there_some heq
    simp only [Bool.and_eq_true] at hok
    exact good_change h1 (okName_size hok.2)
  · rename_i e s1 heq
    have e1 : s1 = (step (okName n && okName o) s).2 := by have := there_snd (okName n && okName o) n s; rw [heq] at this; exact this
    subst e1
    exact h1.mono (by omega)
theorem good_remove {D : Nat} {s : Dk} (h : Good D s) (n : ByteArray) : Good (D + 1) (remove n s).2 := by
  have h1 := good_step h (okName n)
  unfold remove
  split
  · rename_i e i s1 heq
    obtain ⟨hok, rfl⟩ := there_some heq
    exact good_change h1 (by show noName.size ≤ 64; decide)
  · rename_i e s1 heq
    have e1 : s1 = (step (okName n) s).2 := by have := there_snd (okName n) n s; rw [heq] at this; exact this
    subst e1
    exact h1.mono (by omega)
theorem good_dirsync {D : Nat} {s : Dk} (h : Good D s) : Good D (dirsync s).2 := by
  have h1 := good_step h true
  unfold dirsync
  dsimp only
  split
  · exact ⟨h1.dl, by simpa using h1.dl, h1.dn, h1.dn, fun e he => by cases he⟩
  · exact h1
theorem good_read {D : Nat} {s : Dk} (h : Good D s) (n : ByteArray) : Good D (read n s).2.2 := by
  have h1 := good_step h (okName n)
  unfold read
  split
  · rename_i e i s1 heq
    obtain ⟨_, rfl⟩ := there_some heq
    exact h1
  · rename_i e s1 heq
    have e1 : s1 = (step (okName n) s).2 := by have := there_snd (okName n) n s; rw [heq] at this; exact this
    subst e1
    exact h1
theorem good_boot {D : Nat} {s : Dk} (h : Good D s) (en : Int) (kept : List Int) : Good D (boot en kept s) := by
  obtain ⟨a, b⟩ := foldl_names (s.pend.take (min (max en 0) s.pend.length).toNat) s.sdir h.sn (fun e he => h.pn e (List.mem_of_mem_take he))
  have b' : ((s.pend.take (min (max en 0) s.pend.length).toNat).foldl toDir s.sdir).length ≤ D := by
    have := h.sl
    have h2 : (s.pend.take (min (max en 0) s.pend.length).toNat).length ≤ s.pend.length := by rw [List.length_take]; omega
    omega
  exact ⟨b', by simpa [boot] using b', a, a, fun e he => by cases he⟩
theorem good_saveOps {D : Nat} {s : Dk} (h : Good D s) (p : ByteArray) (data : List Int) : Good (D + 3) (saveOps p data s).2 := by
  have h1 := good_create h (tmp p)
  have h2 := good_write h1 (tmp p) data
  have h3 := good_fsync h2 (tmp p)
  have h4 := good_rename h3 (tmp p) p
  have h5 := good_dirsync h4
  unfold saveOps
  dsimp only
  split
  · exact (good_remove h1 (tmp p)).mono (by omega)
  · split
    · exact (good_remove h2 (tmp p)).mono (by omega)
    · split
      · exact (good_remove h3 (tmp p)).mono (by omega)
      · split
        · exact (good_remove h4 (tmp p)).mono (by omega)
        · exact h5.mono (by omega)
theorem good_save {D : Nat} {s : Dk} (h : Good D s) (p : ByteArray) (data : List Int) : Good (D + 3) (save p data s).2 := by
  rw [save_eq]
  split
  · exact h.mono (by omega)
  · split
    · exact h.mono (by omega)
    · exact good_saveOps h p data
theorem good_load {D : Nat} {s : Dk} (h : Good D s) (p : ByteArray) : Good D (load p s).2.2 := by
  unfold load
  split
  · exact h
  · exact good_read h p
theorem good_recover {D : Nat} {s : Dk} (h : Good D s) (p : ByteArray) : Good (D + 1) (recover p s).2 := by
  unfold recover
  dsimp only
  split
  · exact h.mono (by omega)
  · split
    · exact h.mono (by omega)
    · split
      · exact good_remove h (tmp p)
      · exact good_dirsync (good_remove h (tmp p))
theorem good_fresh (room : Int) : Good 0 (fresh room) :=
  ⟨Nat.le_refl _, Nat.le_refl _, fun p hp => by simp [fresh] at hp, fun p hp => by simp [fresh] at hp, fun p hp => by simp [fresh] at hp⟩
end Go.Proofs.Ythdncdhgnoggkaa
