/-
  How great a disk may be behind each call (plain; no program). A disk that lies in blocks of S lies in those of them that are there; bytes that lie elsewhere are kept.
  No condition.
-/
import Derived.Test.YthdncdhgnoggkaaSmall
set_option linter.unusedSimpArgs false
set_option linter.unusedVariables false
namespace Go.Proofs.Ythdncdhgnoggkaa
open Go.RowKit

structure Fit (N M : Nat) (s : Dk) : Prop where
  nf : s.files.length ≤ N
  np : s.pend.length ≤ N
  nb : ∀ f ∈ s.files, f.now.length ≤ M ∧ f.safe.length ≤ M
  room : -9223372036854775808 ≤ s.room ∧ s.room ≤ 9223372036854775807

theorem Fit.mono {N M N' M' : Nat} {s : Dk} (h : Fit N M s) (hN : N ≤ N') (hM : M ≤ M') : Fit N' M' s :=
  ⟨by have := h.nf; omega, by have := h.np; omega, fun f hf => by have := h.nb f hf; omega, h.room⟩
theorem fit_step {N M : Nat} {s : Dk} (h : Fit N M s) (ok : Bool) : Fit N M (step ok s).2 := by
  unfold step
  dsimp only
  repeat (first | exact h | exact ⟨h.nf, h.np, h.nb, h.room⟩ | split)
theorem there_snd (ok : Bool) (n : ByteArray) (s : Dk) : (there ok n s).2.2 = (step ok s).2 := by
  unfold there
  dsimp only
  split
  · split <;> rfl
  · rfl
theorem fit_change {N M : Nat} {s : Dk} (h : Fit N M s) (e : Ent) : Fit (N + 1) M (change e s) := by
  refine ⟨by have := h.nf; show s.files.length ≤ _; omega, ?_, h.nb, h.room⟩
  show (s.pend ++ [e]).length ≤ _
  have := h.np
  simp
  omega
theorem fit_create {N M : Nat} {s : Dk} (h : Fit N M s) (n : ByteArray) : Fit (N + 1) M (create n s).2 := by
  have h1 := fit_step h (okName n)
  unfold create
  dsimp only
  split
  · split
    · exact h1.mono (by omega) (Nat.le_refl _)
    · refine ⟨?_, ?_, ?_, h1.room⟩
      · show (_ ++ [_]).length ≤ _
        have := h1.nf
        simp
        omega
      · show (_ ++ [_]).length ≤ _
        have := h1.np
        simp
        omega
      · intro f hf
        have hf' : f ∈ (step (okName n) s).2.files ++ [⟨[], []⟩] := hf
        simp only [List.mem_append, List.mem_singleton] at hf'
        rcases hf' with hf' | rfl
        · exact h1.nb f hf'
        · simp
  · exact h1.mono (by omega) (Nat.le_refl _)
theorem modify_mem {α : Type} (l : List α) (i : Nat) (g : α → α) (x : α) (h : x ∈ l.modify i g) : x ∈ l ∨ ∃ y ∈ l, x = g y := by
  induction l generalizing i with
  | nil => simp at h
  | cons a l ih =>
    cases i with
    | zero =>
      simp at h
      rcases h with rfl | h
      · exact .inr ⟨a, by simp, rfl⟩
      · exact .inl (by simp [h])
    | succ i =>
      simp at h
      rcases h with rfl | h
      · exact .inl (by simp)
      · rcases ih i h with h | ⟨y, hy, e⟩
        · exact .inl (by simp [h])
        · exact .inr ⟨y, by simp [hy], e⟩
theorem fit_modify {N M M' : Nat} {s : Dk} (h : Fit N M s) (hM : M ≤ M') (i : Nat) (g : Fil → Fil) (hg : ∀ f, f.now.length ≤ M ∧ f.safe.length ≤ M → (g f).now.length ≤ M' ∧ (g f).safe.length ≤ M') : Fit N M' { s with files := s.files.modify i g } := by
  refine ⟨by have := h.nf; show (s.files.modify i g).length ≤ _; simpa using this, h.np, fun f hf => ?_, h.room⟩
  rcases modify_mem _ _ _ _ hf with hf | ⟨y, hy, rfl⟩
  · have := h.nb f hf; omega
  · exact hg y (h.nb y hy)
theorem fit_write {N M : Nat} {s : Dk} (h : Fit N M s) (n : ByteArray) (data : List Int) : Fit N (M + data.length) (write n data s).2 := by
  have h1 := fit_step h (okName n)
  unfold write
  split
  · rename_i e i s1 heq
    have e1 : s1 = (step (okName n) s).2 := by have := there_snd (okName n) n s; rw [heq] at this; exact this
    subst e1
    split
    · exact h1.mono (Nat.le_refl _) (by omega)
    · exact fit_modify h1 (by omega) i _ (fun f hf => by simp; omega)
  · rename_i e s1 heq
    have e1 : s1 = (step (okName n) s).2 := by have := there_snd (okName n) n s; rw [heq] at this; exact this
    subst e1
    exact h1.mono (Nat.le_refl _) (by omega)
theorem fit_fsync {N M : Nat} {s : Dk} (h : Fit N M s) (n : ByteArray) : Fit N M (fsync n s).2 := by
  have h1 := fit_step h (okName n)
  unfold fsync
  split
  · rename_i e i s1 heq
    have e1 : s1 = (step (okName n) s).2 := by have := there_snd (okName n) n s; rw [heq] at this; exact this
    subst e1
    exact fit_modify h1 (Nat.le_refl _) i _ (fun f hf => ⟨hf.1, hf.1⟩)
  · rename_i e s1 heq
    have e1 : s1 = (step (okName n) s).2 := by have := there_snd (okName n) n s; rw [heq] at this; exact this
    subst e1
    exact h1
theorem fit_rename {N M : Nat} {s : Dk} (h : Fit N M s) (n o : ByteArray) : Fit (N + 1) M (rename n o s).2 := by
  have h1 := fit_step h (okName n && okName o)
  unfold rename
  split
  · rename_i e i s1 heq
    have e1 : s1 = (step (okName n && okName o) s).2 := by have := there_snd (okName n && okName o) n s; rw [heq] at this; exact this
    subst e1
    exact fit_change h1 _
  · rename_i e s1 heq
    have e1 : s1 = (step (okName n && okName o) s).2 := by have := there_snd (okName n && okName o) n s; rw [heq] at this; exact this
    subst e1
    exact h1.mono (by omega) (Nat.le_refl _)
theorem fit_remove {N M : Nat} {s : Dk} (h : Fit N M s) (n : ByteArray) : Fit (N + 1) M (remove n s).2 := by
  have h1 := fit_step h (okName n)
  unfold remove
  split
  · rename_i e i s1 heq
    have e1 : s1 = (step (okName n) s).2 := by have := there_snd (okName n) n s; rw [heq] at this; exact this
    subst e1
    exact fit_change h1 _
  · rename_i e s1 heq
    have e1 : s1 = (step (okName n) s).2 := by have := there_snd (okName n) n s; rw [heq] at this; exact this
    subst e1
    exact h1.mono (by omega) (Nat.le_refl _)
theorem fit_dirsync {N M : Nat} {s : Dk} (h : Fit N M s) : Fit N M (dirsync s).2 := by
  have h1 := fit_step h true
  unfold dirsync
  dsimp only
  split
  · exact ⟨h1.nf, Nat.zero_le _, h1.nb, h1.room⟩
  · exact h1
theorem fit_read {N M : Nat} {s : Dk} (h : Fit N M s) (n : ByteArray) : Fit N M (read n s).2.2 := by
  have h1 := fit_step h (okName n)
  unfold read
  split
  · rename_i e i s1 heq
    have e1 : s1 = (step (okName n) s).2 := by have := there_snd (okName n) n s; rw [heq] at this; exact this
    subst e1
    exact h1
  · rename_i e s1 heq
    have e1 : s1 = (step (okName n) s).2 := by have := there_snd (okName n) n s; rw [heq] at this; exact this
    subst e1
    exact h1
theorem fit_boot {N M : Nat} {s : Dk} (h : Fit N M s) (en : Int) (kept : List Int) : Fit N M (boot en kept s) := by
  refine ⟨by have := h.nf; show (s.files.mapIdx _).length ≤ _; simpa using this, Nat.zero_le _, fun f hf => ?_, h.room⟩
  have hf' : f ∈ s.files.mapIdx (bootFile kept) := hf
  obtain ⟨i, hi, rfl⟩ := List.mem_mapIdx.1 hf'
  have := h.nb _ (List.getElem_mem hi)
  unfold bootFile
  dsimp only
  split
  · split
    · simp; omega
    · simp; omega
  · simp; omega

/-- What a save does behind its checks. -/
def saveOps (p : ByteArray) (data : List Int) (s : Dk) : Int × Dk :=
  let r1 := create (tmp p) s
  if r1.1 ≠ 0 then (r1.1, (remove (tmp p) r1.2).2) else
  let r2 := write (tmp p) data r1.2
  if r2.1 ≠ 0 then (r2.1, (remove (tmp p) r2.2).2) else
  let r3 := fsync (tmp p) r2.2
  if r3.1 ≠ 0 then (r3.1, (remove (tmp p) r3.2).2) else
  let r4 := rename (tmp p) p r3.2
  if r4.1 ≠ 0 then (r4.1, (remove (tmp p) r4.2).2) else
  dirsync r4.2
theorem save_eq (p : ByteArray) (data : List Int) (s : Dk) : save p data s = if !right p then (1, s) else if (1048576 : Int) < data.length then (3, s) else saveOps p data s := rfl
theorem fit_saveOps {N M : Nat} {s : Dk} (h : Fit N M s) (p : ByteArray) (data : List Int) : Fit (N + 3) (M + data.length) (saveOps p data s).2 := by
  have h1 := fit_create h (tmp p)
  have h2 := fit_write h1 (tmp p) data
  have h3 := fit_fsync h2 (tmp p)
  have h4 := fit_rename h3 (tmp p) p
  have h5 := fit_dirsync h4
  unfold saveOps
  dsimp only
  split
  · exact (fit_remove h1 (tmp p)).mono (by omega) (by omega)
  · split
    · exact (fit_remove h2 (tmp p)).mono (by omega) (by omega)
    · split
      · exact (fit_remove h3 (tmp p)).mono (by omega) (by omega)
      · split
        · exact (fit_remove h4 (tmp p)).mono (by omega) (by omega)
        · exact h5.mono (by omega) (by omega)
theorem fit_save {N M : Nat} {s : Dk} (h : Fit N M s) (p : ByteArray) (data : List Int) : Fit (N + 3) (M + data.length) (save p data s).2 := by
  rw [save_eq]
  split
  · exact h.mono (by omega) (by omega)
  · split
    · exact h.mono (by omega) (by omega)
    · exact fit_saveOps h p data
theorem fit_load {N M : Nat} {s : Dk} (h : Fit N M s) (p : ByteArray) : Fit N M (load p s).2.2 := by
  unfold load
  split
  · exact h
  · exact fit_read h p
theorem fit_recover {N M : Nat} {s : Dk} (h : Fit N M s) (p : ByteArray) : Fit (N + 1) M (recover p s).2 := by
  unfold recover
  dsimp only
  split
  · exact h.mono (by omega) (Nat.le_refl _)
  · split
    · exact h.mono (by omega) (Nat.le_refl _)
    · split
      · exact fit_remove h (tmp p)
      · exact fit_dirsync (fit_remove h (tmp p))
theorem fit_fresh (room : Int) (h : 0 ≤ room ∧ room ≤ 1073741824) : Fit 0 0 (fresh room) :=
  ⟨Nat.le_refl _, Nat.le_refl _, fun f hf => by simp [fresh] at hf, by show _ ≤ room ∧ room ≤ _; omega⟩

/-! ### blocks that are there -/
theorem own_lt {w : World} {base : Nat} {e : TypeId} {size : Nat} {v : Value} {n : Nat} {xs : List Value} (h : w.ownsRow base e size v n xs) {k : Nat} (hk : v.ownBlock = some k) : k < w.heap.size := by
  rcases h.2 with ⟨rfl, _⟩ | ⟨g, cap, cur, rfl, _, hh, _⟩
  · simp [Value.ownBlock] at hk
  · have : g = k := by simpa [Value.ownBlock] using hk
    exact this ▸ (Array.getElem?_eq_some_iff.1 hh).1
def Trim (S : Nat → Prop) (w : World) : Nat → Prop := fun k => S k ∧ k < w.heap.size
theorem BytesIn.trim {S : Nat → Prop} {w : World} {v : Value} {xs : List Int} (h : BytesIn S w v xs) : BytesIn (Trim S w) w v xs := by
  obtain ⟨A, c, e, hz, hl, hr⟩ := h
  refine ⟨A, c, e, hz, hl, fun hp => ?_⟩
  obtain ⟨b, o, cur, fr, e2, hs, hh, hc⟩ := hr hp
  exact ⟨b, o, cur, fr, e2, ⟨hs, (Array.getElem?_eq_some_iff.1 hh).1⟩, hh, hc⟩
theorem DiskRep.trim {S : Nat → Prop} {w : World} {db : Nat} {s : Dk} {r : Rep} (h : DiskRep S w db s r) : DiskRep (Trim S w) w db s r :=
  { sdb := ⟨h.sdb, (Array.getElem?_eq_some_iff.1 h.blk).1⟩, blk := h.blk, fbl := h.fbl, fbn := h.fbn, rows := h.rows, rowS := fun k e => ⟨h.rowS k e, own_lt h.rows e⟩,
    files := fun i f hf => by
      obtain ⟨b, nv, sv, h1, h2, h3, h4, h5⟩ := h.files i f hf
      exact ⟨b, nv, sv, h1, ⟨h2, (Array.getElem?_eq_some_iff.1 h3).1⟩, h3, h4.trim, h5.trim⟩,
    sdB := ⟨h.sdB, h.dir.lt⟩, dir := h.dir, ssB := ⟨h.ssB, h.sdir.lt⟩, sdir := h.sdir, ne1 := h.ne1, pend := h.pend, pendS := fun k e => ⟨h.pendS k e, own_lt h.pend e⟩,
    plan := by
      have hp := h.plan
      unfold PlanRep at hp ⊢
      revert hp
      cases r.plan with
      | none => exact id
      | some b => exact fun hp => ⟨⟨hp.1, hp.2.lt⟩, hp.2⟩
    ne2 := h.ne2, ne3 := h.ne3, inD := h.inD, inS := h.inS, inP := h.inP }
theorem Disk.trim {S : Nat → Prop} {w : World} {db : Nat} {s : Dk} (h : Disk S w db s) : Disk (Trim S w) w db s := by
  obtain ⟨r, h⟩ := h
  exact ⟨r, h.trim⟩

/-- The bytes lie elsewhere. -/
def Out (S : Nat → Prop) (v : Value) : Prop := ∀ ad n c, v = .slice (some ad) n c → 0 < n → ¬ S ad.block
theorem Src.touch {S : Nat → Prop} {w w' : World} {v : Value} {xs : List Int} (h : Src w v xs) (ho : Out S v) (ht : Touch S w w') : Src w' v xs := by
  refine ⟨h.1, h.2.imp id ?_⟩
  rintro ⟨ad, c, e, hc⟩
  refine ⟨ad, c, e, fun j u hj => ?_⟩
  have hl : 0 < xs.length := by
    have := (List.getElem?_eq_some_iff.1 hj).1
    simp [u8s] at this
    omega
  have hb : (ad.add j).block = ad.block := by unfold Addr.add; split <;> rfl
  have := hc j u hj
  exact (World.cell?_of_block (ht.block _ (World.block_lt_of_cell? _ _ this) (by rw [hb]; exact ho ad _ c e hl))).trans this
theorem Out.grow {S : Nat → Prop} {w : World} {v : Value} {xs : List Int} (h : Src w v xs) (ho : Out S v) : Out (Grow S w) v := by
  rintro ad n c e hn (hs | hs)
  · exact ho ad n c e hn hs
  · rcases h.2 with ⟨e2, _⟩ | ⟨ad2, c2, e2, hc⟩
    · rw [e] at e2; cases e2
    · rw [e] at e2
      cases e2
      obtain ⟨u, hu⟩ : ∃ u, (u8s xs)[0]? = some u := ⟨_, List.getElem?_eq_getElem (by simp [u8s]; omega)⟩
      have hlt := World.block_lt_of_cell? _ _ (hc 0 u hu)
      have hb : (ad.add 0).block = ad.block := by unfold Addr.add; split <;> rfl
      rw [hb] at hlt
      omega
end Go.Proofs.Ythdncdhgnoggkaa
