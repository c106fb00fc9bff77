/-
  What saves leave behind any crash (plain; no program): whatever part of the directory's changes survives, the path tells the bytes of a save that may be told.
  No condition.
-/
import Derived.Test.YthdncdhgnoggkaaLastsLaw
set_option linter.unusedSimpArgs false
set_option linter.unusedVariables false
namespace Go.Proofs.Ythdncdhgnoggkaa

def GoodAt (fs : List Fil) (may : List (List Int)) (none : Bool) : Option Nat → Prop
  | .none => none = true
  | .some i => ∃ x, fs[i]? = some ⟨x, x⟩ ∧ x ∈ may
structure Inv (s : Dk) (may : List (List Int)) (none : Bool) : Prop where
  dir : s.dir = s.pend.foldl toDir s.sdir
  good : ∀ k, k ≤ s.pend.length → GoodAt s.files may none (find (dirTo s k) nameB)
/-- A file is being written that the path does not tell. -/
structure Mid (s : Dk) (may : List (List Int)) (none : Bool) (j : Nat) (f : Fil) : Prop extends Inv s may none where
  at_ : find s.dir (tmp nameB) = some j
  file : s.files[j]? = some f
  apart : ∀ k, k ≤ s.pend.length → find (dirTo s k) nameB ≠ some j

theorem find_erase {l : Dir} {g n : ByteArray} (h : ¬ g = n) : find (erase g l) n = find l n := by
  induction l with
  | nil => rfl
  | cons p l ih =>
    unfold erase
    by_cases hp : p.1 = g
    · rw [if_pos hp]
      simp [find, hp, h]
    · rw [if_neg hp]
      simp only [find, ih]
theorem find_put (l : Dir) (m n : ByteArray) (i : Nat) : find (put l m i) n = if m = n then some i else find l n := by
  induction l with
  | nil => simp [put, find]
  | cons p l ih =>
    unfold put
    by_cases hp : p.1 = m
    · rw [if_pos hp]
      by_cases h : m = n
      · simp [find, h]
      · simp [find, h, hp]
    · rw [if_neg hp]
      simp only [find, ih]
      by_cases h : m = n
      · subst h; simp [hp]
      · simp [h]
theorem find_toDir {l : Dir} {e : Ent} {n : ByteArray} (hg : ¬ e.gone = n) (hn : e.f = none ∨ ¬ e.name = n) : find (toDir l e) n = find l n := by
  unfold toDir
  split
  · exact find_erase hg
  · rename_i i hi
    rw [find_put, if_neg (by rcases hn with h | h; rw [h] at hi; cases hi; exact h), find_erase hg]
theorem GoodAt.mono {fs : List Fil} {may may' : List (List Int)} {none : Bool} {o : Option Nat} (h : GoodAt fs may none o) (hm : ∀ x ∈ may, x ∈ may') : GoodAt fs may' none o := by
  cases o with
  | none => exact h
  | some i => obtain ⟨x, h1, h2⟩ := h; exact ⟨x, h1, hm x h2⟩
theorem Inv.mono {s : Dk} {may may' : List (List Int)} {none : Bool} (h : Inv s may none) (hm : ∀ x ∈ may, x ∈ may') : Inv s may' none := ⟨h.dir, fun k hk => (h.good k hk).mono hm⟩
/-- What tells no file, no directory and nothing pending apart. -/
theorem Inv.same {s s' : Dk} {may : List (List Int)} {none : Bool} (h : Inv s may none) (h1 : s'.files = s.files) (h2 : s'.dir = s.dir) (h3 : s'.sdir = s.sdir) (h4 : s'.pend = s.pend) : Inv s' may none := by
  refine ⟨by rw [h2, h3, h4]; exact h.dir, fun k hk => ?_⟩
  have := h.good k (by rw [← h4]; exact hk)
  unfold dirTo at this ⊢
  rw [h1, h3, h4]
  exact this
theorem Inv.step {s : Dk} {may : List (List Int)} {none : Bool} (h : Inv s may none) (ok : Bool) : Inv (step ok s).2 may none := by
  obtain ⟨h1, h2, h3, h4, _⟩ := step_rest ok s
  exact h.same h1 h3 h4 h2
/-- One more change is pending. -/
theorem Inv.change {s : Dk} {may : List (List Int)} {none : Bool} (h : Inv s may none) (e : Ent) (hg : GoodAt s.files may none (find (toDir s.dir e) nameB)) : Inv (change e s) may none := by
  refine ⟨?_, fun k hk => ?_⟩
  · show toDir s.dir e = (s.pend ++ [e]).foldl toDir s.sdir
    rw [List.foldl_append, ← h.dir]
    rfl
  · have hk' : k ≤ (s.pend ++ [e]).length := hk
    simp only [List.length_append, List.length_cons, List.length_nil] at hk'
    show GoodAt s.files may none (find (((s.pend ++ [e]).take k).foldl toDir s.sdir) nameB)
    by_cases hle : k ≤ s.pend.length
    · rw [List.take_append_of_le_length hle]
      exact h.good k hle
    · have : (s.pend ++ [e]).take k = s.pend ++ [e] := List.take_of_length_le (by simp; omega)
      rw [this, List.foldl_append, ← h.dir]
      exact hg
theorem dirTo_last {s : Dk} {may : List (List Int)} {none : Bool} (h : Inv s may none) : dirTo s s.pend.length = s.dir := by
  unfold dirTo
  rw [List.take_length, h.dir]
theorem Inv.last {s : Dk} {may : List (List Int)} {none : Bool} (h : Inv s may none) : GoodAt s.files may none (find s.dir nameB) := by
  have := h.good s.pend.length (Nat.le_refl _)
  rwa [dirTo_last h] at this
theorem inv_remove {s : Dk} {may : List (List Int)} {none : Bool} (h : Inv s may none) : Inv (remove (tmp nameB) s).2 may none := by
  have h1 := h.step (okName (tmp nameB))
  unfold remove
  split
  · rename_i e i s1 heq
    obtain ⟨_, rfl⟩ := there_some heq
    refine h1.change _ ?_
    rw [find_toDir neT (.inl rfl)]
    exact h1.last
  · rename_i e s1 heq
    have e1 : s1 = (step (okName (tmp nameB)) s).2 := by have := there_snd (okName (tmp nameB)) (tmp nameB) s; rw [heq] at this; exact this
    subst e1
    exact h1
theorem GoodAt.lt {fs : List Fil} {may : List (List Int)} {none : Bool} {i : Nat} (h : GoodAt fs may none (some i)) : i < fs.length := by
  obtain ⟨x, h1, _⟩ := h
  exact (List.getElem?_eq_some_iff.1 h1).1
theorem GoodAt.more {fs : List Fil} {may : List (List Int)} {none : Bool} {o : Option Nat} (h : GoodAt fs may none o) (f : Fil) : GoodAt (fs ++ [f]) may none o := by
  cases o with
  | none => exact h
  | some i =>
    have hl := h.lt
    obtain ⟨x, h1, h2⟩ := h
    exact ⟨x, by rw [List.getElem?_append_left hl]; exact h1, h2⟩
theorem noN : ¬ noName = nameB := by decide
theorem find_put_same (l : Dir) (n : ByteArray) (i : Nat) : find (put l n i) n = some i := by rw [find_put, if_pos rfl]
theorem mid_create {s : Dk} {may : List (List Int)} {none : Bool} (h : Inv s may none) : Inv (create (tmp nameB) s).2 may none ∧ ((create (tmp nameB) s).1 = 0 → ∃ j, Mid (create (tmp nameB) s).2 may none j ⟨[], []⟩) := by
  have h1 := h.step (okName (tmp nameB))
  unfold create
  dsimp only
  split
  · split
    · exact ⟨h1, fun h => by simp at h⟩
    · generalize (step (okName (tmp nameB)) s).2 = t at h1 ⊢
      have h2 : Inv { t with files := t.files ++ [⟨[], []⟩] } may none := ⟨h1.dir, fun k hk => (h1.good k hk).more _⟩
      have hsame : find (toDir t.dir ⟨noName, tmp nameB, some t.files.length⟩) nameB = find t.dir nameB := find_toDir noN (.inr neT)
      have h3 : Inv (change ⟨noName, tmp nameB, some t.files.length⟩ { t with files := t.files ++ [⟨[], []⟩] }) may none := by
        refine h2.change _ ?_
        show GoodAt _ _ _ (find (toDir t.dir _) nameB)
        rw [hsame]
        exact h2.last
      refine ⟨h3, fun _ => ⟨t.files.length, { h3 with at_ := ?_, file := ?_, apart := fun k hk he => ?_ }⟩⟩
      · show find (put (erase noName t.dir) (tmp nameB) t.files.length) (tmp nameB) = _
        exact find_put_same _ _ _
      · show (t.files ++ [⟨[], []⟩])[t.files.length]? = _
        simp
      · have hk' : k ≤ (t.pend ++ [Ent.mk noName (tmp nameB) (some t.files.length)]).length := hk
        simp only [List.length_append, List.length_cons, List.length_nil] at hk'
        have he' : find (((t.pend ++ [Ent.mk noName (tmp nameB) (some t.files.length)]).take k).foldl toDir t.sdir) nameB = some t.files.length := he
        by_cases hle : k ≤ t.pend.length
        · rw [List.take_append_of_le_length hle] at he'
          have := h1.good k hle
          unfold dirTo at this
          rw [he'] at this
          have := this.lt
          omega
        · have : (t.pend ++ [Ent.mk noName (tmp nameB) (some t.files.length)]).take k = t.pend ++ [Ent.mk noName (tmp nameB) (some t.files.length)] := List.take_of_length_le (by simp; omega)
          rw [this, List.foldl_append, ← h1.dir] at he'
          have he2 : find (toDir t.dir ⟨noName, tmp nameB, some t.files.length⟩) nameB = some t.files.length := he'
          rw [hsame] at he2
          have := h1.last
          rw [he2] at this
          have := this.lt
          omega
  · exact ⟨h1, fun h => by contradiction⟩
theorem Mid.step {s : Dk} {may : List (List Int)} {none : Bool} {j : Nat} {f : Fil} (h : Mid s may none j f) (ok : Bool) : Mid (step ok s).2 may none j f := by
  obtain ⟨h1, h2, h3, h4, _⟩ := step_rest ok s
  refine { h.toInv.step ok with at_ := by rw [h3]; exact h.at_, file := by rw [h1]; exact h.file, apart := fun k hk => ?_ }
  have := h.apart k (by rw [← h2]; exact hk)
  unfold dirTo at this ⊢
  rw [h2, h4]
  exact this
theorem Mid.modify {s : Dk} {may : List (List Int)} {none : Bool} {j : Nat} {f : Fil} (h : Mid s may none j f) (g : Fil → Fil) : Mid { s with files := s.files.modify j g } may none j (g f) := by
  refine ⟨⟨h.dir, fun k hk => ?_⟩, h.at_, ?_, h.apart⟩
  · have h1 := h.good k hk
    have h2 := h.apart k hk
    show GoodAt (s.files.modify j g) may none (find (dirTo s k) nameB)
    cases hf : find (dirTo s k) nameB with
    | none => rw [hf] at h1; exact h1
    | some i =>
      rw [hf] at h1 h2
      obtain ⟨x, q1, q2⟩ := h1
      refine ⟨x, ?_, q2⟩
      have hne : j ≠ i := fun e => h2 (by rw [e])
      simp [List.getElem?_modify, hne, q1]
  · show (s.files.modify j g)[j]? = _
    rw [modify_set _ _ _ _ h.file]
    simp [(List.getElem?_eq_some_iff.1 h.file).1]
theorem mid_there {s : Dk} {may : List (List Int)} {none : Bool} {j i : Nat} {f : Fil} {ok : Bool} {e : Int} {s1 : Dk} (h : Mid s may none j f) (ht : there ok (tmp nameB) s = (e, some i, s1)) : i = j ∧ s1 = (step ok s).2 := by
  obtain ⟨hok, h1⟩ := there_some ht
  refine ⟨?_, h1⟩
  have hm := (h.step ok).at_
  unfold there at ht
  dsimp only at ht
  rw [hm] at ht
  split at ht
  · simp at ht
    exact ht.2.1.symm
  · simp at ht
theorem mid_write {s : Dk} {may : List (List Int)} {none : Bool} {j : Nat} (h : Mid s may none j ⟨[], []⟩) (data : List Int) : Inv (write (tmp nameB) data s).2 may none ∧ ((write (tmp nameB) data s).1 = 0 → Mid (write (tmp nameB) data s).2 may none j ⟨data, []⟩) := by
  have h1 := h.step (okName (tmp nameB))
  unfold write
  split
  · rename_i e i s1 heq
    obtain ⟨rfl, rfl⟩ := mid_there h heq
    split
    · exact ⟨h1.toInv, fun h => by simp at h⟩
    · have := h1.modify (fun f => { f with now := f.now ++ data })
      exact ⟨this.toInv, fun _ => this⟩
  · rename_i e s1 heq
    have e1 : s1 = (step (okName (tmp nameB)) s).2 := by have := there_snd (okName (tmp nameB)) (tmp nameB) s; rw [heq] at this; exact this
    subst e1
    exact ⟨h1.toInv, fun hz => by
      rcases there_cases (okName (tmp nameB)) (tmp nameB) s with ⟨i, hq, _⟩ | ⟨e', hne, hq⟩
      · rw [hq] at heq; simp at heq
      · rw [hq] at heq
        simp only [Prod.mk.injEq] at heq
        exact absurd (heq.1.trans hz) hne⟩
theorem mid_fsync {s : Dk} {may : List (List Int)} {none : Bool} {j : Nat} {data : List Int} (h : Mid s may none j ⟨data, []⟩) : Inv (fsync (tmp nameB) s).2 may none ∧ ((fsync (tmp nameB) s).1 = 0 → Mid (fsync (tmp nameB) s).2 may none j ⟨data, data⟩) := by
  have h1 := h.step (okName (tmp nameB))
  unfold fsync
  split
  · rename_i e i s1 heq
    obtain ⟨rfl, rfl⟩ := mid_there h heq
    have := h1.modify (fun f => { f with safe := f.now })
    exact ⟨this.toInv, fun _ => this⟩
  · rename_i e s1 heq
    have e1 : s1 = (step (okName (tmp nameB)) s).2 := by have := there_snd (okName (tmp nameB)) (tmp nameB) s; rw [heq] at this; exact this
    subst e1
    exact ⟨h1.toInv, fun hz => by
      rcases there_cases (okName (tmp nameB)) (tmp nameB) s with ⟨i, hq, _⟩ | ⟨e', hne, hq⟩
      · rw [hq] at heq; simp at heq
      · rw [hq] at heq
        simp only [Prod.mk.injEq] at heq
        exact absurd (heq.1.trans hz) hne⟩
/-- The path tells the new bytes. -/
def Tells (s : Dk) (data : List Int) : Prop := ∃ j, find s.dir nameB = some j ∧ s.files[j]? = some ⟨data, data⟩
theorem mid_rename {s : Dk} {may : List (List Int)} {none : Bool} {j : Nat} {data : List Int} (h : Mid s may none j ⟨data, data⟩) : Inv (rename (tmp nameB) nameB s).2 (may ++ [data]) none ∧ ((rename (tmp nameB) nameB s).1 = 0 → Tells (rename (tmp nameB) nameB s).2 data) := by
  have h1 := h.step (okName (tmp nameB) && okName nameB)
  have h0 := h1.toInv.mono (may' := may ++ [data]) (fun x hx => List.mem_append_left _ hx)
  unfold rename
  split
  · rename_i e i s1 heq
    obtain ⟨rfl, rfl⟩ := mid_there h heq
    have hf : find (toDir (step (okName (tmp nameB) && okName nameB) s).2.dir ⟨tmp nameB, nameB, some i⟩) nameB = some i := find_put_same _ _ _
    refine ⟨h0.change _ ?_, fun _ => ⟨i, hf, h1.file⟩⟩
    rw [hf]
    exact ⟨data, h1.file, by simp⟩
  · rename_i e s1 heq
    have e1 : s1 = (step (okName (tmp nameB) && okName nameB) s).2 := by have := there_snd (okName (tmp nameB) && okName nameB) (tmp nameB) s; rw [heq] at this; exact this
    subst e1
    exact ⟨h0, fun hz => by
      rcases there_cases (okName (tmp nameB) && okName nameB) (tmp nameB) s with ⟨i, hq, _⟩ | ⟨e', hne, hq⟩
      · rw [hq] at heq; simp at heq
      · rw [hq] at heq
        simp only [Prod.mk.injEq] at heq
        exact absurd (heq.1.trans hz) hne⟩
theorem inv_dirsync {s : Dk} {may : List (List Int)} {none : Bool} (h : Inv s may none) : Inv (dirsync s).2 may none := by
  have h1 := h.step true
  unfold dirsync
  dsimp only
  split
  · refine ⟨rfl, fun k hk => ?_⟩
    have : k = 0 := by simpa using hk
    subst this
    exact h1.last
  · exact h1
theorem tells_dirsync {s : Dk} {data : List Int} (h : Tells s data) (hz : (dirsync s).1 = 0) : Inv (dirsync s).2 [data] false := by
  obtain ⟨j, h1, h2⟩ := h
  obtain ⟨e1, e2, e3, e4, _⟩ := step_rest true s
  unfold dirsync at hz ⊢
  dsimp only at hz ⊢
  split at hz
  · rename_i h0
    rw [if_pos h0]
    refine ⟨rfl, fun k hk => ?_⟩
    have : k = 0 := by simpa using hk
    subst this
    show GoodAt (step true s).2.files [data] false (find (step true s).2.dir nameB)
    rw [e1, e3, h1]
    exact ⟨data, h2, by simp⟩
  · contradiction
/-- Whatever a save answers: what may be told behind it. -/
theorem inv_saveOps {s : Dk} {may : List (List Int)} {none : Bool} (h : Inv s may none) (data : List Int) : Inv (saveOps nameB data s).2 (may ++ [data]) none ∧ ((saveOps nameB data s).1 = 0 → Inv (saveOps nameB data s).2 [data] false) := by
  have hm : ∀ {t : Dk}, Inv t may none → Inv t (may ++ [data]) none := fun ht => ht.mono (fun x hx => List.mem_append_left _ hx)
  obtain ⟨a1, b1⟩ := mid_create h
  unfold saveOps
  dsimp only
  split
  · rename_i hz; exact ⟨hm (inv_remove a1), fun h => absurd h hz⟩
  · rename_i hz
    obtain ⟨j, m1⟩ := b1 (by simpa using hz)
    obtain ⟨a2, b2⟩ := mid_write m1 data
    split
    · rename_i hz; exact ⟨hm (inv_remove a2), fun h => absurd h hz⟩
    · rename_i hz2
      obtain ⟨a3, b3⟩ := mid_fsync (b2 (by simpa using hz2))
      split
      · rename_i hz; exact ⟨hm (inv_remove a3), fun h => absurd h hz⟩
      · rename_i hz3
        obtain ⟨a4, b4⟩ := mid_rename (b3 (by simpa using hz3))
        split
        · rename_i hz; exact ⟨inv_remove a4, fun h => absurd h hz⟩
        · rename_i hz4
          exact ⟨inv_dirsync a4, fun h => tells_dirsync (b4 (by simpa using hz4)) h⟩
theorem inv_save {s : Dk} {may : List (List Int)} {none : Bool} (h : Inv s may none) (data : List Int) (hl : data.length ≤ 4096) : Inv (save nameB data s).2 (may ++ [data]) none ∧ ((save nameB data s).1 = 0 → Inv (save nameB data s).2 [data] false) := by
  have : save nameB data s = saveOps nameB data s := by
    rw [save_eq, rightB]
    simp only [Bool.not_true, Bool.false_eq_true, if_false]
    rw [if_neg (by omega)]
  rw [this]
  exact inv_saveOps h data
theorem inv_fresh (room : Int) (pl : IMap) : Inv { fresh room with plan := pl } [] true := ⟨rfl, fun k hk => by
  have : k = 0 := by simpa [fresh] using hk
  subst this
  rfl⟩
/-- Behind a boot. -/
structure Calm (s : Dk) (may : List (List Int)) (none : Bool) : Prop extends Inv s may none where
  plan : s.plan = []
  up : s.down = false
theorem calm_boot {s : Dk} {may : List (List Int)} {none : Bool} (h : Inv s may none) (en : Int) (kept : List Int) : Calm (boot en kept s) may none := by
  refine ⟨⟨rfl, fun k hk => ?_⟩, rfl, rfl⟩
  have : k = 0 := by simpa [boot] using hk
  subst this
  have hg := h.good (min (max en 0) s.pend.length).toNat (by omega)
  show GoodAt (s.files.mapIdx (bootFile kept)) may none (find (dirTo s (min (max en 0) s.pend.length).toNat) nameB)
  cases hf : find (dirTo s (min (max en 0) s.pend.length).toNat) nameB with
  | none => rw [hf] at hg; exact hg
  | some i =>
    rw [hf] at hg
    obtain ⟨x, h1, h2⟩ := hg
    exact ⟨x, by rw [List.getElem?_mapIdx, h1]; simp [bootFile_same], h2⟩
theorem step_calm {s : Dk} (hp : s.plan = []) (hd : s.down = false) : step true s = (0, { s with steps := w64 (s.steps + 1) }) := by
  simp [step, hp, hd, kindAt, findI]
theorem calm_recover {s : Dk} {may : List (List Int)} {none : Bool} (h : Calm s may none) : (recover nameB s).1 = 0 ∧ Calm (recover nameB s).2 may none := by
  unfold recover
  dsimp only
  rw [rightB]
  simp only [Bool.not_true, Bool.false_eq_true, if_false]
  cases hli : listed s (tmp nameB) with
  | false => exact ⟨rfl, h⟩
  | true =>
    simp only [Bool.not_true, Bool.false_eq_true, if_false]
    have hi := inv_remove h.toInv
    have hfd : ∃ i, find s.dir (tmp nameB) = some i := by
      unfold listed at hli
      simp only [Bool.and_eq_true, List.any_eq_true] at hli
      obtain ⟨_, p, hp, he⟩ := hli
      rw [beq_bytes] at he
      have he := of_decide_eq_true he
      have key : ∀ l : Dir, p ∈ l → ∃ i, find l (tmp nameB) = some i := by
        intro l
        induction l with
        | nil => intro h; cases h
        | cons q l ih =>
          intro hq
          unfold find
          by_cases e : q.1 = tmp nameB
          · exact ⟨q.2, by rw [if_pos e]⟩
          · rw [if_neg e]
            rcases List.mem_cons.1 hq with rfl | hq
            · exact absurd he e
            · exact ih hq
      exact key _ hp
    obtain ⟨i, hfi⟩ := hfd
    have hr : remove (tmp nameB) s = (0, change ⟨tmp nameB, noName, .none⟩ { s with steps := w64 (s.steps + 1) }) := by
      unfold remove there
      rw [okT, step_calm h.plan h.up]
      simp [hfi]
    rw [hr] at hi ⊢
    simp only [ne_eq, not_true, if_false]
    have hd := inv_dirsync hi
    have hs := step_calm (s := change ⟨tmp nameB, noName, .none⟩ { s with steps := w64 (s.steps + 1) }) h.plan h.up
    unfold dirsync at hd ⊢
    rw [hs] at hd ⊢
    simp only [if_true] at hd ⊢
    exact ⟨trivial, hd, h.plan, h.up⟩
theorem calm_load {s : Dk} {may : List (List Int)} {none : Bool} (h : Calm s may none) : (none = true ∧ (load nameB s).1 = 63 ∧ (load nameB s).2.1 = .none) ∨ (∃ x ∈ may, (load nameB s).1 = 0 ∧ (load nameB s).2.1 = some x) := by
  have hg := h.toInv.last
  unfold load read there
  rw [rightB, okB, step_calm h.plan h.up]
  simp only [Bool.not_true, Bool.false_eq_true, if_false, if_true]
  cases hf : find s.dir nameB with
  | none => rw [hf] at hg; exact .inl ⟨hg, rfl, rfl⟩
  | some i =>
    rw [hf] at hg
    obtain ⟨x, h1, h2⟩ := hg
    exact .inr ⟨x, h2, rfl, by simp [nowAt, h1]⟩
end Go.Proofs.Ythdncdhgnoggkaa
