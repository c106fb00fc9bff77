/-
  How great the reference's disk may grow.
  No program and no memory here.
-/
import Derived.Test.YthdncdhgnoggkaaROps
set_option linter.unusedSimpArgs false
set_option linter.unusedVariables false
namespace Go.Proofs.Ythdncdhgnoggkaa

theorem RFit.mono {N M N' M' : Nat} {s : RDk} (h : RFit N M s) (hN : N ≤ N') (hM : M ≤ M') : RFit N' M' s :=
  ⟨by have := h.nd; omega, by have := h.ns; omega, h.nl, by have := h.nf; omega, fun f hf => by have := h.nb f hf; omega, h.room⟩
theorem rfit_change {N M c : Nat} {s : RDk} (h : RFit N M s) {l : RDir} (hl : l.length ≤ 2) : RFit (N + 2) M (rchange l s) :=
  ⟨by have := h.nd; have := rputs_len l s.dir; show (rputs s.dir l).length ≤ _; omega, by have := h.ns; show s.sdir.length + 2 * (s.wait ++ [l]).length ≤ _; simp; omega,
   fun x hx => by rcases List.mem_append.1 hx with hx | hx; exact h.nl x hx; rw [List.mem_singleton.1 hx]; exact hl, by have := h.nf; show s.files.length ≤ _; omega, h.nb, h.room⟩
theorem rthere_snd (ok : Bool) (n : ByteArray) (s : RDk) : (rthere ok n s).2.2 = (rstep ok s).2 := by
  unfold rthere
  dsimp only
  split
  · split <;> rfl
  · rfl
theorem rthere_fit {N M : Nat} {s : RDk} (h : RFit N M s) (ok : Bool) (n : ByteArray) : RFit N M (rthere ok n s).2.2 := by rw [rthere_snd]; exact rfit_step h ok
theorem rfit_create {N M : Nat} {s : RDk} (h : RFit N M s) (n : ByteArray) : RFit (N + 2) M (rcreate n s).2 := by
  have h1 := rfit_step h (okName n)
  unfold rcreate
  dsimp only
  split
  · split
    · exact h1.mono (by omega) (Nat.le_refl _)
    · refine ⟨?_, ?_, ?_, ?_, ?_, h1.room⟩
      · have := h1.nd
        have := rputs_len [(n, ((rstep (okName n) s).2.files.length : Int))] (rstep (okName n) s).2.dir
        show (rputs (rstep (okName n) s).2.dir _).length ≤ _
        simp at this ⊢
        omega
      · have := h1.ns
        show (rstep (okName n) s).2.sdir.length + 2 * ((rstep (okName n) s).2.wait ++ [_]).length ≤ _
        simp
        omega
      · intro x hx
        have hx' : x ∈ (rstep (okName n) s).2.wait ++ [_] := hx
        rcases List.mem_append.1 hx' with hx | hx
        · exact h1.nl x hx
        · rw [List.mem_singleton.1 hx]; simp
      · have := h1.nf
        show ((rstep (okName n) s).2.files ++ [_]).length ≤ _
        simp
        omega
      · intro f hf
        have hf' : f ∈ (rstep (okName n) s).2.files ++ [_] := hf
        rcases List.mem_append.1 hf' with hf | hf
        · exact h1.nb f hf
        · rw [List.mem_singleton.1 hf]; simp
  · exact h1.mono (by omega) (Nat.le_refl _)
theorem rfit_modify {N M M' : Nat} {s : RDk} (h : RFit N M s) (hM : M ≤ M') (i : Nat) (g : Fil → Fil) (hg : ∀ f, f.now.length ≤ M ∧ f.safe.length ≤ M → (g f).now.length ≤ M' ∧ (g f).safe.length ≤ M') : RFit N M' { s with files := s.files.modify i g } := by
  refine ⟨h.nd, h.ns, h.nl, by have := h.nf; show (s.files.modify i g).length ≤ _; simpa using this, fun f hf => ?_, h.room⟩
  rcases modify_mem _ _ _ _ hf with hf | ⟨y, hy, rfl⟩
  · have := h.nb f hf; omega
  · exact hg y (h.nb y hy)
theorem rfit_write {N M : Nat} {s : RDk} (h : RFit N M s) (n : ByteArray) (data : List Int) : RFit N (M + data.length) (rwrite n data s).2 := by
  have h1 := rthere_fit h (okName n) n
  unfold rwrite
  split
  · rename_i e i s1 heq
    rw [heq] at h1
    split
    · exact h1.mono (Nat.le_refl _) (by omega)
    · exact rfit_modify h1 (by omega) _ _ (fun f hf => by simp; omega)
  · rename_i e s1 heq
    rw [heq] at h1
    exact h1.mono (Nat.le_refl _) (by omega)
theorem rfit_fsync {N M : Nat} {s : RDk} (h : RFit N M s) (n : ByteArray) : RFit N M (rfsync n s).2 := by
  have h1 := rthere_fit h (okName n) n
  unfold rfsync
  split
  · rename_i e i s1 heq
    rw [heq] at h1
    exact rfit_modify h1 (by omega) _ _ (fun f hf => by simp; omega)
  · rename_i e s1 heq
    rw [heq] at h1
    exact h1
theorem rfit_rename {N M : Nat} {s : RDk} (h : RFit N M s) (n o : ByteArray) : RFit (N + 2) M (rrename n o s).2 := by
  have h1 := rthere_fit h (okName n && okName o) n
  unfold rrename
  split
  · rename_i e i s1 heq
    rw [heq] at h1
    exact rfit_change (c := 0) h1 (by simp)
  · rename_i e s1 heq
    rw [heq] at h1
    exact h1.mono (by omega) (Nat.le_refl _)
theorem rfit_remove {N M : Nat} {s : RDk} (h : RFit N M s) (n : ByteArray) : RFit (N + 2) M (rremove n s).2 := by
  have h1 := rthere_fit h (okName n) n
  unfold rremove
  split
  · rename_i e i s1 heq
    rw [heq] at h1
    exact rfit_change (c := 0) h1 (by simp)
  · rename_i e s1 heq
    rw [heq] at h1
    exact h1.mono (by omega) (Nat.le_refl _)
theorem rfit_dirsync {N M : Nat} {s : RDk} (h : RFit N M s) : RFit N M (rdirsync s).2 := by
  have h1 := rfit_step h true
  unfold rdirsync
  dsimp only
  split
  · exact ⟨h1.nd, by have := h1.nd; show (rstep true s).2.dir.length + 2 * 0 ≤ _; omega, (fun x hx => by cases hx), h1.nf, h1.nb, h1.room⟩
  · exact h1
theorem rfit_read {N M : Nat} {s : RDk} (h : RFit N M s) (n : ByteArray) : RFit N M (rread n s).2.2 := by
  have h1 := rthere_fit h (okName n) n
  unfold rread
  split
  · rename_i e i s1 heq
    rw [heq] at h1
    exact h1
  · rename_i e s1 heq
    rw [heq] at h1
    exact h1
theorem foldl_rputs (l : List RDir) (hl : ∀ x ∈ l, x.length ≤ 2) : ∀ d, (l.foldl rputs d).length ≤ d.length + 2 * l.length := by
  induction l with
  | nil => intro d; simp
  | cons x l ih =>
    intro d
    have h1 := ih (fun y hy => hl y (List.mem_cons_of_mem _ hy)) (rputs d x)
    have h2 := rputs_len x d
    have h3 := hl x (by simp)
    rw [List.foldl_cons, List.length_cons]
    omega
theorem rboot_dir {N M : Nat} {s : RDk} (h : RFit N M s) (k : Nat) : ((s.wait.take k).foldl rputs s.sdir).length ≤ N := by
  have h1 := foldl_rputs (s.wait.take k) (fun x hx => h.nl x (List.mem_of_mem_take hx)) s.sdir
  have h2 := h.ns
  rw [List.length_take] at h1
  omega
theorem rfit_boot {N M : Nat} {s : RDk} (h : RFit N M s) (en : Int) (kept : List Int) : RFit N M (rboot en kept s) := by
  refine ⟨rboot_dir h _, by have := rboot_dir h en.toNat; show ((s.wait.take en.toNat).foldl rputs s.sdir).length + 2 * 0 ≤ _; omega, (fun x hx => by cases hx), by have := h.nf; show (s.files.mapIdx _).length ≤ _; simpa using this, fun f hf => ?_, h.room⟩
  have hf' : f ∈ s.files.mapIdx (bootFile kept) := hf
  obtain ⟨i, hi, rfl⟩ := List.mem_mapIdx.1 hf'
  have := h.nb _ (List.getElem_mem hi)
  unfold bootFile
  dsimp only
  split
  · split
    · simp; omega
    · simp; omega
  · simp; omega
theorem rfit_fresh (room : Int) (h : 0 ≤ room ∧ room ≤ 1073741824) : RFit 0 0 (rfresh room) :=
  ⟨Nat.le_refl _, Nat.le_refl _, (fun x hx => by cases hx), Nat.le_refl _, (fun f hf => by cases hf), h⟩
theorem rfit_arm {N M : Nat} {s : RDk} (h : RFit N M s) (xs : List (Int × Int)) : RFit N M (rarm xs s).2 := by
  unfold rarm
  split
  · exact ⟨h.nd, h.ns, h.nl, h.nf, h.nb, h.room⟩
  · exact h
theorem rsave_four (p : ByteArray) (data : List Int) (s : RDk) : (rsave p data s).2 = s ∨ ∃ e1 s1 e2 s2 e3 s3 e4 s4, rcreate (tmp p) s = (e1, s1) ∧ rwrite (tmp p) data s1 = (e2, s2) ∧ rfsync (tmp p) s2 = (e3, s3) ∧ rrename (tmp p) p s3 = (e4, s4) ∧
    ((rsave p data s).2 = (rremove (tmp p) s1).2 ∨ (rsave p data s).2 = (rremove (tmp p) s2).2 ∨ (rsave p data s).2 = (rremove (tmp p) s3).2 ∨ (rsave p data s).2 = (rremove (tmp p) s4).2 ∨ (rsave p data s).2 = (rdirsync s4).2) := by
  by_cases h1 : (!right p) = true
  · left; unfold rsave; rw [if_pos h1]
  · by_cases h2 : (1048576 : Int) < data.length
    · left; unfold rsave; rw [if_neg h1, if_pos h2]
    · right
      refine ⟨_, _, _, _, _, _, _, _, rfl, rfl, rfl, rfl, ?_⟩
      unfold rsave
      rw [if_neg h1, if_neg h2]
      dsimp only
      by_cases z1 : (rcreate (tmp p) s).1 ≠ 0
      · rw [if_pos z1]; exact .inl rfl
      · rw [if_neg z1]
        by_cases z2 : (rwrite (tmp p) data (rcreate (tmp p) s).2).1 ≠ 0
        · rw [if_pos z2]; exact .inr (.inl rfl)
        · rw [if_neg z2]
          by_cases z3 : (rfsync (tmp p) (rwrite (tmp p) data (rcreate (tmp p) s).2).2).1 ≠ 0
          · rw [if_pos z3]; exact .inr (.inr (.inl rfl))
          · rw [if_neg z3]
            split
            · exact .inr (.inr (.inr (.inl rfl)))
            · exact .inr (.inr (.inr (.inr rfl)))
theorem rfit_save {N M : Nat} {s : RDk} (h : RFit N M s) (p : ByteArray) (data : List Int) : RFit (N + 6) (M + data.length) (rsave p data s).2 := by
  rcases rsave_four p data s with e | ⟨e1, s1, e2, s2, e3, s3, e4, s4, h1, h2, h3, h4, e⟩
  · rw [e]; exact h.mono (by omega) (by omega)
  · have f1 := rfit_create h (tmp p)
    rw [h1] at f1
    have f2 := rfit_write f1 (tmp p) data
    rw [h2] at f2
    have f3 := rfit_fsync f2 (tmp p)
    rw [h3] at f3
    have f4 := rfit_rename f3 (tmp p) p
    rw [h4] at f4
    rcases e with e | e | e | e | e <;> rw [e]
    · exact (rfit_remove f1 _).mono (by omega) (by omega)
    · exact (rfit_remove f2 _).mono (by omega) (by omega)
    · exact (rfit_remove f3 _).mono (by omega) (by omega)
    · exact (rfit_remove f4 _).mono (by omega) (by omega)
    · exact (rfit_dirsync f4).mono (by omega) (by omega)
theorem rfit_load {N M : Nat} {s : RDk} (h : RFit N M s) (p : ByteArray) : RFit N M (rload p s).2.2 := by
  unfold rload
  split
  · exact h
  · exact rfit_read h p
theorem rfit_recover {N M : Nat} {s : RDk} (h : RFit N M s) (p : ByteArray) : RFit (N + 2) M (rrecover p s).2 := by
  unfold rrecover
  dsimp only
  split
  · exact h.mono (by omega) (Nat.le_refl _)
  · split
    · exact h.mono (by omega) (Nat.le_refl _)
    · split
      · exact rfit_remove h _
      · exact rfit_dirsync (rfit_remove h _)
end Go.Proofs.Ythdncdhgnoggkaa
