/-
  The program's directory and the reference's hold the same names and files: what each change does to both.
  No program and no memory here.
-/
import Derived.Test.YthdncdhgnoggkaaRModel
import Derived.Test.YthdncdhgnoggkaaWholeLaw
import Derived.Sort.Walk0
set_option linter.unusedSimpArgs false
set_option linter.unusedVariables false
namespace Go.Proofs.Ythdncdhgnoggkaa

theorem lt_tri (a b : List UInt8) : a < b ∨ a = b ∨ b < a := by
  by_cases h1 : a < b
  · exact .inl h1
  · by_cases h2 : b < a
    · exact .inr (.inr h2)
    · exact .inr (.inl (List.le_antisymm (List.not_lt.1 h2) (List.not_lt.1 h1)))
theorem lt_irr {a : List UInt8} (h : a < a) : False := List.lt_irrefl a h
theorem lt_tr {a b c : List UInt8} (h : a < b) (k : b < c) : a < c := List.lt_trans h k
theorem toL_inj {a b : ByteArray} (h : a.toList = b.toList) : a = b := by
  have e : ∀ x : ByteArray, x.toList = x.data.toList := fun x => Lib.toList_data x
  rw [e, e] at h
  cases a; cases b
  simp only at h
  congr
  exact Array.ext' h
theorem gtB_iff (a b : ByteArray) : gtB a b = true ↔ b.toList < a.toList := by
  unfold gtB
  rw [bytesLess_eq]
  rcases lt_tri a.toList b.toList with h | h | h
  · simp only [h, decide_true, Bool.true_or, Bool.not_true, Bool.false_eq_true, false_iff]
    exact fun k => lt_irr (lt_tr h k)
  · simp only [h, BEq.rfl, Bool.or_true, Bool.not_true, Bool.false_eq_true, false_iff]
    exact fun k => lt_irr k
  · have h1 : ¬ a.toList < b.toList := fun k => lt_irr (lt_tr h k)
    have h2 : (a.toList == b.toList) = false := by
      rw [beq_eq_false_iff_ne]
      intro e
      rw [e] at h
      exact lt_irr h
    simp [h1, h2, h]

/-- Sorted by names, none twice. -/
def Srt (r : RDir) : Prop := r.Pairwise (fun p q => p.1.toList < q.1.toList)
def drop1 (n : ByteArray) (r : RDir) : RDir := r.filter (fun p => decide (p.1 ≠ n))
def ins (n : ByteArray) (f : Int) : RDir → RDir
  | [] => [(n, f)]
  | p :: l => if gtB p.1 n = true then (n, f) :: p :: drop1 n l else if p.1 = n then ins n f l else p :: ins n f l

theorem rsetGo_true (n : ByteArray) (f : Int) (l : RDir) : rsetGo n f l true = (drop1 n l, true) := by
  induction l with
  | nil => rfl
  | cons p l ih =>
    simp only [rsetGo, Bool.true_or, ih, Bool.not_true, Bool.false_and, Bool.false_eq_true, if_false, List.nil_append]
    unfold drop1
    rw [List.filter_cons]
    by_cases h : p.1 = n <;> simp [h]
theorem gt_ne {a b : ByteArray} (h : gtB a b = true) : a ≠ b := fun e => by
  rw [gtB_iff, e] at h
  exact lt_irr h
theorem rset_pos (l : RDir) (n : ByteArray) (f : Int) (hf : 0 ≤ f) : rset l n f = ins n f l := by
  unfold rset
  rw [decide_eq_false (by omega)]
  dsimp only
  induction l with
  | nil => rfl
  | cons p l ih =>
    by_cases hg : gtB p.1 n = true
    · have hne := gt_ne hg
      simp only [rsetGo, hg, Bool.not_false, Bool.true_and, Bool.false_or, if_true, rsetGo_true, ins, hne, if_false]
      rfl
    · have hg' : gtB p.1 n = false := by simpa using hg
      simp only [rsetGo, hg', Bool.not_false, Bool.true_and, Bool.false_or, Bool.false_eq_true, if_false, ins, List.nil_append]
      by_cases hn : p.1 = n
      · simp only [hn, if_true, List.nil_append]
        exact ih
      · simp only [hn, if_false]
        rw [← ih]
        split <;> simp
theorem rset_neg (l : RDir) (n : ByteArray) : rset l n (-1) = drop1 n l := by
  unfold rset
  rw [decide_eq_true (by omega), rsetGo_true]
  rfl
theorem srt_drop {r : RDir} (h : Srt r) (n : ByteArray) : Srt (drop1 n r) := h.filter _
theorem drop1_same {l : RDir} {n : ByteArray} (h : ∀ p ∈ l, p.1 ≠ n) : drop1 n l = l := by
  unfold drop1
  rw [List.filter_eq_self]
  intro p hp
  simpa using h p hp
theorem drop1_cons (n : ByteArray) (p : ByteArray × Int) (l : RDir) : drop1 n (p :: l) = if p.1 = n then drop1 n l else p :: drop1 n l := by
  unfold drop1
  rw [List.filter_cons]
  by_cases h : p.1 = n <;> simp [h]
theorem ins_perm (l : RDir) (n : ByteArray) (f : Int) : (ins n f l).Perm ((n, f) :: drop1 n l) := by
  induction l with
  | nil => exact List.Perm.refl _
  | cons p l ih =>
    unfold ins
    rw [drop1_cons]
    by_cases hg : gtB p.1 n = true
    · rw [if_pos hg, if_neg (gt_ne hg)]
    · rw [if_neg hg]
      by_cases hn : p.1 = n
      · rw [if_pos hn, if_pos hn]
        exact ih
      · rw [if_neg hn, if_neg hn]
        exact (List.Perm.cons p ih).trans (List.Perm.swap _ _ _)
theorem ins_mem {l : RDir} {n : ByteArray} {f : Int} {q : ByteArray × Int} (h : q ∈ ins n f l) : q = (n, f) ∨ q ∈ l := by
  have := (ins_perm l n f).mem_iff.1 h
  rcases List.mem_cons.1 this with e | e
  · exact .inl e
  · exact .inr (List.mem_filter.1 e).1
theorem ins_srt {l : RDir} (h : Srt l) (n : ByteArray) (f : Int) : Srt (ins n f l) := by
  induction l with
  | nil => exact List.pairwise_singleton _ _
  | cons p l ih =>
    obtain ⟨h1, h2⟩ := List.pairwise_cons.1 h
    unfold ins
    by_cases hg : gtB p.1 n = true
    · rw [if_pos hg]
      have hlt := (gtB_iff _ _).1 hg
      refine List.pairwise_cons.2 ⟨fun q hq => ?_, List.pairwise_cons.2 ⟨fun q hq => h1 q (List.mem_filter.1 hq).1, srt_drop h2 n⟩⟩
      rcases List.mem_cons.1 hq with e | hq
      · rw [e]; exact hlt
      · exact lt_tr hlt (h1 q (List.mem_filter.1 hq).1)
    · rw [if_neg hg]
      by_cases hn : p.1 = n
      · rw [if_pos hn]
        exact ih h2
      · rw [if_neg hn]
        refine List.pairwise_cons.2 ⟨fun q hq => ?_, ih h2⟩
        rcases ins_mem hq with e | hq
        · rw [e]
          rcases lt_tri p.1.toList n.toList with k | k | k
          · exact k
          · exact absurd (toL_inj k) hn
          · exact absurd ((gtB_iff _ _).2 k) hg
        · exact h1 q hq

/-! ### the two directories -/
def conv (p : ByteArray × Int) : ByteArray × Nat := (p.1, p.2.toNat)
structure SameDir (d : Dir) (r : RDir) : Prop where
  srt : Srt r
  pos : ∀ p ∈ r, 0 ≤ p.2
  perm : (r.map conv).Perm d
  nn : ∀ p ∈ r, p.1 ≠ noName
theorem sameDir_nil : SameDir [] [] := ⟨List.Pairwise.nil, (fun p hp => by cases hp), List.Perm.refl _, fun p hp => by cases hp⟩
theorem srt_nodup {r : RDir} (h : Srt r) : (r.map (·.1)).Nodup := by
  unfold List.Nodup
  rw [List.pairwise_map]
  exact h.imp (fun {a b} hab e => by rw [e] at hab; exact lt_irr hab)
theorem SameDir.nodup {d : Dir} {r : RDir} (h : SameDir d r) : (d.map (·.1)).Nodup := by
  have h1 := h.perm.map (·.1)
  refine h1.nodup_iff.1 ?_
  rw [List.map_map]
  exact srt_nodup h.srt
theorem find_mem {d : Dir} (hn : (d.map (·.1)).Nodup) (n : ByteArray) (i : Nat) : find d n = some i ↔ (n, i) ∈ d := by
  induction d with
  | nil => simp [find]
  | cons p l ih =>
    rw [List.map_cons, List.nodup_cons] at hn
    obtain ⟨h1, h2⟩ := hn
    unfold find
    by_cases hp : p.1 = n
    · rw [if_pos hp]
      constructor
      · intro e
        cases e
        rw [← hp]
        simp
      · intro hm
        rcases List.mem_cons.1 hm with e | hm
        · rw [← e]
        · exact absurd (List.mem_map.2 ⟨_, hm, hp.symm⟩) h1
    · rw [if_neg hp, ih h2]
      constructor
      · exact List.mem_cons_of_mem _
      · intro hm
        rcases List.mem_cons.1 hm with e | hm
        · exact absurd (by rw [← e]) hp
        · exact hm
theorem find_conv (r : RDir) (n : ByteArray) : find (r.map conv) n = (rfind r n).map Int.toNat := by
  induction r with
  | nil => rfl
  | cons p l ih =>
    rw [List.map_cons]
    unfold find rfind
    have e : (conv p).1 = p.1 := rfl
    rw [e]
    by_cases hp : p.1 = n
    · rw [if_pos hp, if_pos hp]; rfl
    · rw [if_neg hp, if_neg hp]; exact ih
theorem SameDir.find {d : Dir} {r : RDir} (h : SameDir d r) (n : ByteArray) : find d n = (rfind r n).map Int.toNat := by
  rw [← find_conv]
  apply Option.ext
  intro i
  have hn := h.nodup
  have hn2 : ((r.map conv).map (·.1)).Nodup := (h.perm.map (·.1)).nodup_iff.2 hn
  rw [find_mem hn, find_mem hn2]
  exact h.perm.mem_iff.symm
theorem rfind_in' {l : RDir} {n : ByteArray} {f : Int} (h : rfind l n = some f) : (n, f) ∈ l := by
  induction l with
  | nil => cases h
  | cons p l ih =>
    unfold rfind at h
    split at h
    · rename_i hp
      cases h
      rw [← hp]
      simp
    · exact List.mem_cons_of_mem _ (ih h)
theorem SameDir.none {d : Dir} {r : RDir} (h : SameDir d r) (n : ByteArray) : Go.Proofs.Ythdncdhgnoggkaa.find d n = .none ↔ rfind r n = .none := by
  rw [h.find]
  cases rfind r n <;> simp
theorem SameDir.some {d : Dir} {r : RDir} (h : SameDir d r) {n : ByteArray} {f : Int} (hf : rfind r n = .some f) : ∃ i : Nat, f = i ∧ Go.Proofs.Ythdncdhgnoggkaa.find d n = .some i := by
  have h0 := h.pos _ (rfind_in' hf)
  refine ⟨f.toNat, by dsimp only at h0; omega, ?_⟩
  rw [h.find, hf]
  rfl
theorem SameDir.length {d : Dir} {r : RDir} (h : SameDir d r) : r.length = d.length := by
  have := h.perm.length_eq
  rwa [List.length_map] at this
theorem erase_perm {d : Dir} (hn : (d.map (·.1)).Nodup) (n : ByteArray) : erase n d = d.filter (fun p => decide (p.1 ≠ n)) := by
  induction d with
  | nil => rfl
  | cons p l ih =>
    rw [List.map_cons, List.nodup_cons] at hn
    obtain ⟨h1, h2⟩ := hn
    unfold erase
    rw [List.filter_cons]
    by_cases hp : p.1 = n
    · rw [if_pos hp]
      simp only [hp, ne_eq, not_true_eq_false, decide_false, Bool.false_eq_true, if_false]
      symm
      rw [List.filter_eq_self]
      intro q hq
      simp only [ne_eq, decide_eq_true_eq]
      intro e
      exact h1 (List.mem_map.2 ⟨q, hq, by rw [e, hp]⟩)
    · rw [if_neg hp, ih h2]
      simp [hp]
theorem map_drop1 (n : ByteArray) (r : RDir) : (drop1 n r).map conv = (r.map conv).filter (fun p => decide (p.1 ≠ n)) := by
  unfold drop1
  rw [List.filter_map]
  rfl
theorem SameDir.erase {d : Dir} {r : RDir} (h : SameDir d r) (n : ByteArray) : SameDir (erase n d) (rset r n (-1)) := by
  rw [rset_neg]
  refine ⟨srt_drop h.srt n, fun p hp => h.pos p (List.mem_filter.1 hp).1, ?_, fun p hp => h.nn p (List.mem_filter.1 hp).1⟩
  rw [map_drop1, erase_perm h.nodup]
  exact h.perm.filter _
theorem put_perm {d : Dir} (hn : (d.map (·.1)).Nodup) (n : ByteArray) (i : Nat) : (put d n i).Perm ((n, i) :: d.filter (fun p => decide (p.1 ≠ n))) := by
  induction d with
  | nil => exact List.Perm.refl _
  | cons p l ih =>
    rw [List.map_cons, List.nodup_cons] at hn
    obtain ⟨h1, h2⟩ := hn
    unfold put
    rw [List.filter_cons]
    by_cases hp : p.1 = n
    · rw [if_pos hp]
      simp only [hp, ne_eq, not_true_eq_false, decide_false, Bool.false_eq_true, if_false]
      have e : l.filter (fun p => decide (p.1 ≠ n)) = l := by
        rw [List.filter_eq_self]
        intro q hq
        simp only [ne_eq, decide_eq_true_eq]
        intro e
        exact h1 (List.mem_map.2 ⟨q, hq, by rw [e, hp]⟩)
      simp only [ne_eq] at e
      rw [e]
    · rw [if_neg hp]
      simp only [hp, ne_eq, not_false_eq_true, decide_true, if_true]
      exact (List.Perm.cons p (ih h2)).trans (List.Perm.swap _ _ _)
theorem SameDir.put {d : Dir} {r : RDir} (h : SameDir d r) {n : ByteArray} (hn : n ≠ noName) (i : Nat) : SameDir (put d n i) (rset r n i) := by
  rw [rset_pos _ _ _ (by omega)]
  refine ⟨ins_srt h.srt n i, fun p hp => ?_, ?_, fun p hp => ?_⟩
  · rcases ins_mem hp with e | e
    · rw [e]; show (0 : Int) ≤ i; omega
    · exact h.pos p e
  · refine ((ins_perm r n i).map conv).trans ?_
    rw [List.map_cons, map_drop1]
    have e : conv (n, (i : Int)) = (n, i) := by simp [conv]
    rw [e]
    exact (List.Perm.cons _ (h.perm.filter _)).trans (put_perm h.nodup n i).symm
  · rcases ins_mem hp with e | e
    · rw [e]; exact hn
    · exact h.nn p e
theorem erase_absent {d : Dir} {n : ByteArray} (h : ∀ p ∈ d, p.1 ≠ n) : Go.Proofs.Ythdncdhgnoggkaa.erase n d = d := by
  induction d with
  | nil => rfl
  | cons p l ih =>
    unfold Go.Proofs.Ythdncdhgnoggkaa.erase
    rw [if_neg (h p (by simp)), ih (fun q hq => h q (List.mem_cons_of_mem _ hq))]
theorem SameDir.nn' {d : Dir} {r : RDir} (h : SameDir d r) : ∀ p ∈ d, p.1 ≠ noName := fun p hp => by
  obtain ⟨q, hq, rfl⟩ := List.mem_map.1 (h.perm.mem_iff.2 hp)
  exact h.nn q hq
/-- What the reference notes of a change. -/
def entsOf (e : Ent) : RDir :=
  match e.f with
  | .none => [(e.gone, -1)]
  | .some i => if e.gone = noName then [(e.name, (i : Int))] else [(e.gone, -1), (e.name, (i : Int))]
def okEnt (e : Ent) : Prop := e.f ≠ .none → e.name ≠ noName
theorem SameDir.to {d : Dir} {r : RDir} (h : SameDir d r) (e : Ent) (he : okEnt e) : SameDir (toDir d e) (rputs r (entsOf e)) := by
  obtain ⟨gone, name, f⟩ := e
  unfold okEnt at he
  unfold toDir entsOf
  dsimp only at he ⊢
  cases f with
  | none => exact h.erase gone
  | some i =>
    dsimp only
    have hn := he (by simp)
    by_cases hg : gone = noName
    · rw [if_pos hg, hg, erase_absent h.nn']
      exact h.put hn i
    · rw [if_neg hg]
      exact (h.erase gone).put hn i
theorem SameDir.folds {l : List Ent} (hl : ∀ e ∈ l, okEnt e) : ∀ {d : Dir} {r : RDir}, SameDir d r → SameDir (l.foldl toDir d) ((l.map entsOf).foldl rputs r) := by
  induction l with
  | nil => intro d r h; exact h
  | cons e l ih =>
    intro d r h
    rw [List.map_cons, List.foldl_cons, List.foldl_cons]
    exact ih (fun x hx => hl x (List.mem_cons_of_mem _ hx)) (h.to e (hl e (by simp)))
theorem sum_perm {α : Type} {l l' : List α} (h : l.Perm l') (g : α → Int) : (l.map g).sum = (l'.map g).sum := by
  induction h with
  | nil => rfl
  | cons x _ ih => simp only [List.map_cons, List.sum_cons, ih]
  | swap x y l => simp only [List.map_cons, List.sum_cons]; omega
  | trans _ _ ih1 ih2 => exact ih1.trans ih2
theorem SameDir.sum {d : Dir} {r : RDir} (h : SameDir d r) (fs : List Fil) : (r.map (fun p => ((nowAt fs p.2.toNat).length : Int))).sum = (d.map (fun p => ((nowAt fs p.2).length : Int))).sum := by
  have := sum_perm h.perm (fun p => ((nowAt fs p.2).length : Int))
  rw [List.map_map] at this
  exact this
theorem SameDir.keys {d : Dir} {r : RDir} (h : SameDir d r) : sortedKeys d = r.map (fun p => p.1.data.toList) := by
  unfold sortedKeys
  have h1 : (keysOf d).Perm (r.map (fun p => p.1.data.toList)) := by
    have := (h.perm.map (fun p : ByteArray × Nat => p.1.data.toList)).symm
    rw [List.map_map] at this
    exact this
  rw [mergeSort_of_perm h1]
  apply List.mergeSort_of_pairwise
  rw [List.pairwise_map]
  refine h.srt.imp (fun {a b} hab => ?_)
  simp only [decide_eq_true_eq]
  rw [← Lib.toList_data, ← Lib.toList_data]
  exact List.le_of_lt hab
end Go.Proofs.Ythdncdhgnoggkaa
