/-
  The program's disk and the reference's go side by side: each operation answers alike and keeps them so.
  No program and no memory here.
-/
import Derived.Test.YthdncdhgnoggkaaSimDir
import Derived.Test.YthdncdhgnoggkaaRArm
import Derived.Test.YthdncdhgnoggkaaArm
set_option linter.unusedSimpArgs false
set_option linter.unusedVariables false
namespace Go.Proofs.Ythdncdhgnoggkaa

structure Sim (B : Int) (s : Dk) (t : RDk) : Prop where
  room : t.room = s.room
  files : t.files = s.files
  dir : SameDir s.dir t.dir
  sdir : SameDir s.sdir t.sdir
  wait : t.wait = s.pend.map entsOf
  pok : ∀ e ∈ s.pend, okEnt e
  plan : ∀ x, s.steps < x → x ≤ 2305843009213693952 → findI s.plan x = findI t.plan (x - t.src)
  kinds : ∀ x k, findI t.plan x = some k → 1 ≤ k ∧ k ≤ 3
  n : t.n = s.steps
  st : 0 ≤ s.steps ∧ s.steps ≤ B
  src : 0 ≤ t.src ∧ t.src ≤ s.steps
  down : t.down = s.down
theorem Sim.mono {B B' : Int} {s : Dk} {t : RDk} (h : Sim B s t) (hB : B ≤ B') : Sim B' s t := { h with st := by have := h.st; omega }

theorem sim_step {B : Int} {s : Dk} {t : RDk} (h : Sim B s t) (hB : B ≤ 1152921504606846976) (ok : Bool) : (rstep ok t).1 = (step ok s).1 ∧ Sim (B + 1) (step ok s).2 (rstep ok t).2 := by
  have hst := h.st
  have hsr := h.src
  unfold rstep step
  rw [h.down]
  by_cases hd : s.down = true
  · rw [if_pos hd, if_pos hd]
    exact ⟨rfl, h.mono (by omega)⟩
  · rw [if_neg hd, if_neg hd]
    by_cases hk : (!ok) = true
    · rw [if_pos hk, if_pos hk]
      exact ⟨rfl, h.mono (by omega)⟩
    · rw [if_neg hk, if_neg hk]
      dsimp only
      have e1 : w64 (s.steps + 1) = s.steps + 1 := by unfold w64; omega
      have e2 : w64 (s.steps + 1 - t.src) = s.steps + 1 - t.src := by unfold w64; omega
      rw [h.n, e1, e2]
      have hp := h.plan (s.steps + 1) (by omega) (by omega)
      have base : ∀ d : Bool, Sim (B + 1) { s with steps := s.steps + 1, down := d } { t with n := s.steps + 1, down := d } := fun d =>
        { room := h.room, files := h.files, dir := h.dir, sdir := h.sdir, wait := h.wait, pok := h.pok, plan := fun x hx => h.plan x (by dsimp only at hx; omega), kinds := h.kinds, n := rfl, st := by dsimp only; omega, src := by dsimp only; omega, down := rfl }
      have hdn : s.down = false := by simpa using hd
      unfold kindAt
      rw [hp]
      cases hf : findI t.plan (s.steps + 1 - t.src) with
      | none =>
        have b0 := base s.down
        rw [hdn] at b0
        refine ⟨rfl, ?_⟩
        show Sim (B + 1) { s with steps := s.steps + 1 } { t with n := s.steps + 1, down := false }
        have e : ({ s with steps := s.steps + 1 } : Dk) = { s with steps := s.steps + 1, down := false } := by rw [← hdn]
        rw [e]
        exact b0
      | some k =>
        have hkd := h.kinds _ k hf
        have e : ({ s with steps := s.steps + 1 } : Dk) = { s with steps := s.steps + 1, down := false } := by rw [← hdn]
        by_cases k1 : k = 1
        · subst k1
          refine ⟨rfl, ?_⟩
          show Sim (B + 1) { s with steps := s.steps + 1 } { t with n := s.steps + 1, down := false }
          rw [e]
          exact base false
        · by_cases k2 : k = 2
          · subst k2
            refine ⟨rfl, ?_⟩
            show Sim (B + 1) { s with steps := s.steps + 1 } { t with n := s.steps + 1, down := false }
            rw [e]
            exact base false
          · have k3 : k = 3 := by omega
            subst k3
            refine ⟨rfl, ?_⟩
            show Sim (B + 1) { s with steps := s.steps + 1, down := true } { t with n := s.steps + 1, down := true }
            exact base true

theorem step_zero' {ok : Bool} {s : Dk} (h : (step ok s).1 = 0) : ok = true := by
  unfold step at h
  cases ok with
  | true => rfl
  | false =>
    split at h
    · simp at h
    · simp at h
theorem okName_ne {n : ByteArray} (h : okName n = true) : n ≠ noName := by
  rintro rfl
  revert h
  decide

theorem sim_there {B : Int} {s : Dk} {t : RDk} (h : Sim B s t) (hB : B ≤ 1152921504606846976) (ok : Bool) (n : ByteArray) :
    (∃ e s1 t1, there ok n s = (e, none, s1) ∧ rthere ok n t = (e, none, t1) ∧ Sim (B + 1) s1 t1) ∨ (ok = true ∧ ∃ (i : Nat) (s1 : Dk) (t1 : RDk), there ok n s = (0, some i, s1) ∧ rthere ok n t = (0, some (i : Int), t1) ∧ Sim (B + 1) s1 t1) := by
  obtain ⟨h1, h2⟩ := sim_step h hB ok
  unfold there rthere
  dsimp only
  rw [h1]
  by_cases hz : (step ok s).1 = 0
  · rw [if_pos hz, if_pos hz]
    cases hf : rfind (rstep ok t).2.dir n with
    | none =>
      rw [(h2.dir.none n).2 hf]
      exact .inl ⟨_, _, _, rfl, rfl, h2⟩
    | some f =>
      obtain ⟨i, rfl, hi⟩ := h2.dir.some hf
      rw [hi]
      exact .inr ⟨step_zero' hz, i, _, _, rfl, rfl, h2⟩
  · rw [if_neg hz, if_neg hz]
    exact .inl ⟨_, _, _, rfl, rfl, h2⟩
theorem sim_change {B : Int} {s : Dk} {t : RDk} (h : Sim B s t) (e : Ent) (he : okEnt e) : Sim B (change e s) (rchange (entsOf e) t) :=
  { room := h.room, files := h.files, dir := h.dir.to e he, sdir := h.sdir, wait := by show t.wait ++ [entsOf e] = (s.pend ++ [e]).map entsOf; rw [h.wait, List.map_append]; rfl,
    pok := fun x hx => by
      rcases List.mem_append.1 (show x ∈ s.pend ++ [e] from hx) with hx | hx
      · exact h.pok x hx
      · rw [List.mem_singleton.1 hx]; exact he,
    plan := h.plan, kinds := h.kinds, n := h.n, st := h.st, src := h.src, down := h.down }
theorem sim_files {B : Int} {s : Dk} {t : RDk} (h : Sim B s t) (fs : List Fil) : Sim B { s with files := fs } { t with files := fs } :=
  { room := h.room, files := rfl, dir := h.dir, sdir := h.sdir, wait := h.wait, pok := h.pok, plan := h.plan, kinds := h.kinds, n := h.n, st := h.st, src := h.src, down := h.down }

theorem sim_create {B : Int} {s : Dk} {t : RDk} (h : Sim B s t) (hB : B ≤ 1152921504606846976) (n : ByteArray) : (rcreate n t).1 = (create n s).1 ∧ Sim (B + 1) (create n s).2 (rcreate n t).2 := by
  obtain ⟨h1, h2⟩ := sim_step h hB (okName n)
  unfold create rcreate
  dsimp only
  rw [h1]
  by_cases hz : (step (okName n) s).1 = 0
  · rw [if_pos hz, if_pos hz]
    have hn := okName_ne (step_zero' hz)
    have hiff : (find (step (okName n) s).2.dir n = none ∧ 8 ≤ (step (okName n) s).2.dir.length) ↔ (rfind (rstep (okName n) t).2.dir n = none ∧ 8 ≤ (rstep (okName n) t).2.dir.length) := by
      rw [h2.dir.none n, h2.dir.length]
    by_cases hc : find (step (okName n) s).2.dir n = none ∧ 8 ≤ (step (okName n) s).2.dir.length
    · rw [if_pos hc, if_pos (hiff.1 hc)]
      exact ⟨rfl, h2⟩
    · rw [if_neg hc, if_neg (fun k => hc (hiff.2 k))]
      refine ⟨rfl, ?_⟩
      have h3 := sim_change (sim_files h2 ((step (okName n) s).2.files ++ [⟨[], []⟩])) ⟨noName, n, some (step (okName n) s).2.files.length⟩ (fun _ => hn)
      have e : entsOf ⟨noName, n, some (step (okName n) s).2.files.length⟩ = [(n, ((step (okName n) s).2.files.length : Int))] := by simp [entsOf]
      rw [e] at h3
      rw [h2.files]
      exact h3
  · rw [if_neg hz, if_neg hz]
    exact ⟨h1, h2⟩
theorem sim_write {B : Int} {s : Dk} {t : RDk} (h : Sim B s t) (hB : B ≤ 1152921504606846976) (n : ByteArray) (data : List Int) : (rwrite n data t).1 = (write n data s).1 ∧ Sim (B + 1) (write n data s).2 (rwrite n data t).2 := by
  rcases sim_there h hB (okName n) n with ⟨e, s1, t1, h1, h2, h3⟩ | ⟨hok, i, s1, t1, h1, h2, h3⟩
  · unfold write rwrite
    rw [h1, h2]
    exact ⟨rfl, h3⟩
  · unfold write rwrite
    rw [h1, h2]
    dsimp only
    have e : w64 (t1.room - rused t1) = left s1 := by
      unfold left used rused
      rw [h3.room, h3.files, h3.dir.sum]
    rw [e]
    by_cases hl : left s1 < (data.length : Int)
    · rw [if_pos hl, if_pos hl]; exact ⟨rfl, h3⟩
    · rw [if_neg hl, if_neg hl]
      refine ⟨rfl, ?_⟩
      rw [Int.toNat_natCast, h3.files]
      exact sim_files h3 _
theorem sim_fsync {B : Int} {s : Dk} {t : RDk} (h : Sim B s t) (hB : B ≤ 1152921504606846976) (n : ByteArray) : (rfsync n t).1 = (fsync n s).1 ∧ Sim (B + 1) (fsync n s).2 (rfsync n t).2 := by
  rcases sim_there h hB (okName n) n with ⟨e, s1, t1, h1, h2, h3⟩ | ⟨hok, i, s1, t1, h1, h2, h3⟩
  · unfold fsync rfsync
    rw [h1, h2]
    exact ⟨rfl, h3⟩
  · unfold fsync rfsync
    rw [h1, h2]
    refine ⟨rfl, ?_⟩
    dsimp only
    rw [Int.toNat_natCast, h3.files]
    exact sim_files h3 _
theorem sim_rename {B : Int} {s : Dk} {t : RDk} (h : Sim B s t) (hB : B ≤ 1152921504606846976) (n o : ByteArray) : (rrename n o t).1 = (rename n o s).1 ∧ Sim (B + 1) (rename n o s).2 (rrename n o t).2 := by
  rcases sim_there h hB (okName n && okName o) n with ⟨e, s1, t1, h1, h2, h3⟩ | ⟨hok, i, s1, t1, h1, h2, h3⟩
  · unfold rename rrename
    rw [h1, h2]
    exact ⟨rfl, h3⟩
  · unfold rename rrename
    rw [h1, h2]
    refine ⟨rfl, ?_⟩
    rw [Bool.and_eq_true] at hok
    have h4 := sim_change h3 ⟨n, o, some i⟩ (fun _ => okName_ne hok.2)
    have e : entsOf ⟨n, o, some i⟩ = [(n, -1), (o, (i : Int))] := by simp [entsOf, okName_ne hok.1]
    rw [e] at h4
    exact h4
theorem sim_remove {B : Int} {s : Dk} {t : RDk} (h : Sim B s t) (hB : B ≤ 1152921504606846976) (n : ByteArray) : (rremove n t).1 = (remove n s).1 ∧ Sim (B + 1) (remove n s).2 (rremove n t).2 := by
  rcases sim_there h hB (okName n) n with ⟨e, s1, t1, h1, h2, h3⟩ | ⟨hok, i, s1, t1, h1, h2, h3⟩
  · unfold remove rremove
    rw [h1, h2]
    exact ⟨rfl, h3⟩
  · unfold remove rremove
    rw [h1, h2]
    refine ⟨rfl, ?_⟩
    exact sim_change h3 ⟨n, noName, none⟩ (fun h => absurd rfl h)
theorem sim_dirsync {B : Int} {s : Dk} {t : RDk} (h : Sim B s t) (hB : B ≤ 1152921504606846976) : (rdirsync t).1 = (dirsync s).1 ∧ Sim (B + 1) (dirsync s).2 (rdirsync t).2 := by
  obtain ⟨h1, h2⟩ := sim_step h hB true
  unfold dirsync rdirsync
  dsimp only
  rw [h1]
  by_cases hz : (step true s).1 = 0
  · rw [if_pos hz, if_pos hz]
    exact ⟨rfl, { room := h2.room, files := h2.files, dir := h2.dir, sdir := h2.dir, wait := rfl, pok := (fun e he => by cases he), plan := h2.plan, kinds := h2.kinds, n := h2.n, st := h2.st, src := h2.src, down := h2.down }⟩
  · rw [if_neg hz, if_neg hz]
    exact ⟨h1, h2⟩
theorem sim_read {B : Int} {s : Dk} {t : RDk} (h : Sim B s t) (hB : B ≤ 1152921504606846976) (n : ByteArray) : (rread n t).1 = (read n s).1 ∧ (rread n t).2.1 = (read n s).2.1 ∧ Sim (B + 1) (read n s).2.2 (rread n t).2.2 := by
  rcases sim_there h hB (okName n) n with ⟨e, s1, t1, h1, h2, h3⟩ | ⟨hok, i, s1, t1, h1, h2, h3⟩
  · unfold read rread
    rw [h1, h2]
    exact ⟨rfl, rfl, h3⟩
  · unfold read rread
    rw [h1, h2]
    refine ⟨rfl, ?_, h3⟩
    dsimp only
    rw [Int.toNat_natCast, h3.files]
theorem sim_boot {B : Int} {s : Dk} {t : RDk} (h : Sim B s t) (en : Int) (kept : List Int) : Sim B (boot en kept s) (rboot en kept t) := by
  have e : (t.wait.take en.toNat).foldl rputs t.sdir = ((s.pend.take (min (max en 0) s.pend.length).toNat).map entsOf).foldl rputs t.sdir := by
    rw [h.wait, ← List.map_take]
    by_cases hl : en ≤ s.pend.length
    · rw [show (min (max en 0) (s.pend.length : Int)).toNat = en.toNat by omega]
    · rw [List.take_of_length_le (show s.pend.length ≤ en.toNat by omega), List.take_of_length_le (show s.pend.length ≤ (min (max en 0) (s.pend.length : Int)).toNat by omega)]
  have hd := h.sdir.folds (l := s.pend.take (min (max en 0) s.pend.length).toNat) (fun x hx => h.pok x (List.mem_of_mem_take hx))
  rw [← e] at hd
  exact { room := h.room, files := by show t.files.mapIdx _ = s.files.mapIdx _; rw [h.files], dir := hd, sdir := hd, wait := rfl, pok := (fun e he => by cases he), plan := fun x _ _ => rfl, kinds := (fun x k hk => by cases hk), n := h.n, st := h.st, src := h.src, down := rfl }

theorem sim_save {B : Int} {s : Dk} {t : RDk} (h : Sim B s t) (hB : B ≤ 1152921504606846970) (p : ByteArray) (data : List Int) : (rsave p data t).1 = (save p data s).1 ∧ Sim (B + 6) (save p data s).2 (rsave p data t).2 := by
  unfold save rsave
  by_cases hr : (!right p) = true
  · rw [if_pos hr, if_pos hr]; exact ⟨rfl, h.mono (by omega)⟩
  · rw [if_neg hr, if_neg hr]
    by_cases hl : (1048576 : Int) < data.length
    · rw [if_pos hl, if_pos hl]; exact ⟨rfl, h.mono (by omega)⟩
    · rw [if_neg hl, if_neg hl]
      obtain ⟨a1, b1⟩ := sim_create h (by omega) (tmp p)
      obtain ⟨a2, b2⟩ := sim_write b1 (by omega) (tmp p) data
      obtain ⟨a3, b3⟩ := sim_fsync b2 (by omega) (tmp p)
      obtain ⟨a4, b4⟩ := sim_rename b3 (by omega) (tmp p) p
      obtain ⟨a5, b5⟩ := sim_dirsync b4 (by omega)
      dsimp only
      rw [a1]
      by_cases z1 : (create (tmp p) s).1 ≠ 0
      · rw [if_pos z1, if_pos z1]; exact ⟨rfl, (sim_remove b1 (by omega) _).2.mono (by omega)⟩
      · rw [if_neg z1, if_neg z1, a2]
        by_cases z2 : (write (tmp p) data (create (tmp p) s).2).1 ≠ 0
        · rw [if_pos z2, if_pos z2]; exact ⟨rfl, (sim_remove b2 (by omega) _).2.mono (by omega)⟩
        · rw [if_neg z2, if_neg z2, a3]
          by_cases z3 : (fsync (tmp p) (write (tmp p) data (create (tmp p) s).2).2).1 ≠ 0
          · rw [if_pos z3, if_pos z3]; exact ⟨rfl, (sim_remove b3 (by omega) _).2.mono (by omega)⟩
          · rw [if_neg z3, if_neg z3, a4]
            split
            · exact ⟨rfl, (sim_remove b4 (by omega) _).2.mono (by omega)⟩
            · exact ⟨a5, b5.mono (by omega)⟩
theorem sim_load {B : Int} {s : Dk} {t : RDk} (h : Sim B s t) (hB : B ≤ 1152921504606846976) (p : ByteArray) : (rload p t).1 = (load p s).1 ∧ (rload p t).2.1 = (load p s).2.1 ∧ Sim (B + 1) (load p s).2.2 (rload p t).2.2 := by
  unfold load rload
  by_cases hr : (!right p) = true
  · rw [if_pos hr, if_pos hr]; exact ⟨rfl, rfl, h.mono (by omega)⟩
  · rw [if_neg hr, if_neg hr]
    exact sim_read h hB p
theorem sim_listed {B : Int} {s : Dk} {t : RDk} (h : Sim B s t) (n : ByteArray) : rlisted t n = listed s n := by
  unfold rlisted listed
  rw [h.down]
  congr 1
  rw [← h.dir.perm.any_eq, List.any_map]
  rfl
theorem sim_recover {B : Int} {s : Dk} {t : RDk} (h : Sim B s t) (hB : B ≤ 1152921504606846970) (p : ByteArray) : (rrecover p t).1 = (recover p s).1 ∧ Sim (B + 2) (recover p s).2 (rrecover p t).2 := by
  unfold recover rrecover
  by_cases hr : (!right p) = true
  · rw [if_pos hr, if_pos hr]; exact ⟨rfl, h.mono (by omega)⟩
  · rw [if_neg hr, if_neg hr, sim_listed h]
    by_cases hl : (!listed s (tmp p)) = true
    · rw [if_pos hl, if_pos hl]; exact ⟨rfl, h.mono (by omega)⟩
    · rw [if_neg hl, if_neg hl]
      obtain ⟨a1, b1⟩ := sim_remove h (by omega) (tmp p)
      obtain ⟨a2, b2⟩ := sim_dirsync b1 (by omega)
      dsimp only
      rw [a1]
      by_cases z : (remove (tmp p) s).1 ≠ 0
      · rw [if_pos z, if_pos z]; exact ⟨a1, b1.mono (by omega)⟩
      · rw [if_neg z, if_neg z]; exact ⟨a2, b2.mono (by omega)⟩
theorem sim_names {B : Int} {s : Dk} {t : RDk} (h : Sim B s t) : rnames t = listing s := by
  unfold rnames listing
  rw [h.down, h.dir.keys]
theorem sim_fresh (room : Int) : Sim 0 (fresh room) (rfresh room) :=
  { room := rfl, files := rfl, dir := sameDir_nil, sdir := sameDir_nil, wait := rfl, pok := (fun e he => by cases he), plan := fun x _ _ => rfl, kinds := (fun x k hk => by cases hk), n := rfl, st := ⟨Int.le_refl _, Int.le_refl _⟩, src := ⟨Int.le_refl _, Int.le_refl _⟩, down := rfl }

/-! ### plans -/
theorem findI_mem {d : IMap} (hn : (d.map (·.1)).Nodup) (x k : Int) : findI d x = some k ↔ (x, k) ∈ d := by
  induction d with
  | nil => simp [findI]
  | cons p l ih =>
    rw [List.map_cons, List.nodup_cons] at hn
    obtain ⟨h1, h2⟩ := hn
    unfold findI
    by_cases hp : p.1 = x
    · rw [if_pos hp]
      constructor
      · intro e
        cases e
        rw [← hp]
        simp
      · intro hm
        rcases List.mem_cons.1 hm with e | hm
        · rw [← e]
        · exact absurd (List.mem_map.2 ⟨_, hm, hp.symm⟩) h1
    · rw [if_neg hp, ih h2]
      constructor
      · exact List.mem_cons_of_mem _
      · intro hm
        rcases List.mem_cons.1 hm with e | hm
        · exact absurd (by rw [← e]) hp
        · exact hm
theorem findI_none' {d : IMap} {x : Int} : findI d x = none ↔ ∀ p ∈ d, p.1 ≠ x := by
  induction d with
  | nil => simp [findI]
  | cons p l ih =>
    unfold findI
    by_cases hp : p.1 = x
    · rw [if_pos hp]
      simp [hp]
    · rw [if_neg hp, ih]
      simp [hp]
theorem putI_new {d : IMap} {x k : Int} (h : findI d x = none) : putI d x k = d ++ [(x, k)] := by
  induction d with
  | nil => rfl
  | cons p l ih =>
    unfold findI at h
    split at h
    · cases h
    · rename_i hp
      unfold putI
      rw [if_neg hp, ih h]
      rfl
theorem armGo_spec (xs : List (Int × Int)) : ∀ m : IMap, (∀ p ∈ m, 1 ≤ p.2) → (m.map (·.1)).Nodup →
    (armGo xs m = some (m ++ xs) ∧ (∀ p ∈ xs, okFault p) ∧ ((m ++ xs).map (·.1)).Nodup) ∨ (armGo xs m = none ∧ ¬ ((∀ p ∈ xs, okFault p) ∧ ((m ++ xs).map (·.1)).Nodup)) := by
  induction xs with
  | nil => intro m _ hn; exact .inl ⟨by simp [armGo], (fun p hp => by cases hp), by simpa using hn⟩
  | cons p l ih =>
    intro m hm hn
    unfold armGo
    by_cases hb : p.1 < 1 ∨ p.2 < 1 ∨ 3 < p.2 ∨ 0 < kindAt m p.1
    · rw [if_pos hb]
      refine .inr ⟨rfl, fun ⟨h1, h2⟩ => ?_⟩
      have hp := h1 p (by simp)
      unfold okFault at hp
      have hk : 0 < kindAt m p.1 := by omega
      unfold kindAt at hk
      cases hf : findI m p.1 with
      | none => rw [hf] at hk; simp at hk
      | some k =>
        have := (findI_mem hn p.1 k).1 hf
        rw [List.map_append, List.nodup_append] at h2
        exact h2.2.2 p.1 (List.mem_map.2 ⟨_, this, rfl⟩) p.1 (by simp) rfl
    · rw [if_neg hb]
      have hf : findI m p.1 = none := by
        cases hf : findI m p.1 with
        | none => rfl
        | some k =>
          have h1 := hm _ ((findI_mem hn p.1 k).1 hf)
          have : 0 < kindAt m p.1 := by unfold kindAt; rw [hf]; dsimp only at h1; simp; omega
          omega
      rw [putI_new hf]
      have hn2 : ((m ++ [(p.1, p.2)]).map (·.1)).Nodup := by
        rw [List.map_append, List.nodup_append]
        refine ⟨hn, by simp, fun a ha b hb2 e => ?_⟩
        obtain ⟨q, hq, rfl⟩ := List.mem_map.1 ha
        have e2 : b = p.1 := by simpa using hb2
        exact findI_none'.1 hf q hq (e.trans e2)
      have hm2 : ∀ q ∈ m ++ [(p.1, p.2)], 1 ≤ q.2 := fun q hq => by
        rcases List.mem_append.1 hq with hq | hq
        · exact hm q hq
        · rw [List.mem_singleton.1 hq]; dsimp only; omega
      have e : m ++ [(p.1, p.2)] ++ l = m ++ p :: l := by simp
      have hi := ih (m ++ [(p.1, p.2)]) hm2 hn2
      rw [e] at hi
      rcases hi with ⟨h1, h2, h3⟩ | ⟨h1, h2⟩
      · refine .inl ⟨h1, fun q hq => ?_, h3⟩
        rcases List.mem_cons.1 hq with hq | hq
        · rw [hq]; unfold okFault; omega
        · exact h2 q hq
      · exact .inr ⟨h1, fun ⟨h3, h4⟩ => h2 ⟨fun q hq => h3 q (List.mem_cons_of_mem _ hq), h4⟩⟩
theorem rightPlan_iff (xs : List (Int × Int)) : rightPlan xs = true ↔ xs.length ≤ 64 ∧ (∀ p ∈ xs, okFault p) ∧ (xs.map (·.1)).Nodup := by
  unfold rightPlan okFault
  simp only [Bool.and_eq_true, decide_eq_true_eq, List.all_eq_true]
  constructor
  · rintro ⟨⟨h1, h2⟩, h3⟩; exact ⟨h1, h2, h3⟩
  · rintro ⟨h1, h2, h3⟩; exact ⟨⟨h1, h2⟩, h3⟩
theorem armGo_right (xs : List (Int × Int)) (h : armGo xs [] = none ∨ 64 < xs.length) : rightPlan xs = false := by
  rw [Bool.eq_false_iff]
  intro hr
  obtain ⟨h1, h2, h3⟩ := (rightPlan_iff xs).1 hr
  rcases h with h | h
  · rcases armGo_spec xs [] (fun p hp => by cases hp) List.nodup_nil with ⟨h4, _⟩ | ⟨_, h4⟩
    · rw [h] at h4; cases h4
    · exact h4 ⟨h2, by simpa using h3⟩
  · omega
theorem sim_arm {B : Int} {s : Dk} {t : RDk} (h : Sim B s t) (hB : B ≤ 1152921504606846976) {xs : List (Int × Int)} {m pl : IMap} (ha : armGo xs [] = some m) (hl : xs.length ≤ 64) (hp : PlanIs m s.steps pl) :
    rarm xs t = (0, { t with plan := xs, src := t.n }) ∧ Sim B { s with plan := pl } { t with plan := xs, src := t.n } := by
  have hst := h.st
  rcases armGo_spec xs [] (fun p hp => by cases hp) List.nodup_nil with ⟨h4, h5, h6⟩ | ⟨h4, _⟩
  · rw [List.nil_append] at h4 h6
    rw [ha] at h4
    cases h4
    have hr : rightPlan xs = true := (rightPlan_iff xs).2 ⟨hl, h5, h6⟩
    refine ⟨by simp [rarm, hr], ?_⟩
    have hk : ∀ x k, findI xs x = some k → 1 ≤ k ∧ k ≤ 3 := fun x k hk => (h5 _ ((findI_mem h6 x k).1 hk)).2
    refine { room := h.room, files := h.files, dir := h.dir, sdir := h.sdir, wait := h.wait, pok := h.pok, plan := fun x hx hx2 => ?_, kinds := hk, n := h.n, st := h.st, src := by dsimp only; rw [h.n]; omega, down := h.down }
    dsimp only at hx ⊢
    rw [h.n]
    apply Option.ext
    intro k
    rw [findI_mem h6]
    constructor
    · intro hf
      obtain ⟨p, hpm, _, e1, e2⟩ := hp.2 x k hf
      have : (x - s.steps, k) = p := by rw [e1, e2]; ext <;> simp <;> omega
      rw [this]
      exact hpm
    · intro hm
      have := hp.1 _ hm (by dsimp only; omega)
      dsimp only at this
      rw [show s.steps + (x - s.steps) = x by omega] at this
      exact this
  · rw [ha] at h4; cases h4
end Go.Proofs.Ythdncdhgnoggkaa
