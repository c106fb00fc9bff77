/-
  Maps from names to pointers, and from whole numbers to whole numbers, as the program keeps them: what a look-up, a store, a delete, len and a copy do, said of lists of pairs.
  Conditions: the map's block is known; the keys' and the elements' types are the program's own.
-/
import Derived.Test.YthdncdhgnoggkaaNames
import Derived.Maps.OwnSet
import Derived.Maps.OwnOps
import Derived.RangeFuncRecord
set_option linter.unusedSimpArgs false
set_option linter.unusedVariables false
namespace Go.Proofs.Ythdncdhgnoggkaa
open Go.RowKit Go.MapKept

/-! ### Worlds: what is turned -/
/-- Only blocks of S, and new ones, are other than they were. -/
structure Touch (S : Nat → Prop) (w w' : World) : Prop where
  os : w'.os = w.os
  tape : w'.tape = w.tape
  output : w'.output = w.output
  size : w.heap.size ≤ w'.heap.size
  block : ∀ k, k < w.heap.size → ¬ S k → w'.heap[k]? = w.heap[k]?

theorem Touch.refl (S : Nat → Prop) (w : World) : Touch S w w := ⟨rfl, rfl, rfl, Nat.le_refl _, fun _ _ _ => rfl⟩
theorem Touch.mono {S S' : Nat → Prop} {w w' : World} (h : Touch S w w') (hs : ∀ k, k < w.heap.size → S k → S' k) : Touch S' w w' :=
  ⟨h.os, h.tape, h.output, h.size, fun k hk hn => h.block k hk (fun hS => hn (hs k hk hS))⟩
/-- S, and what is new since w -/
def Grow (S : Nat → Prop) (w : World) : Nat → Prop := fun k => S k ∨ w.heap.size ≤ k
theorem Touch.trans {S : Nat → Prop} {a b c : World} (h : Touch S a b) (k : Touch (Grow S a) b c) : Touch S a c :=
  ⟨k.os.trans h.os, k.tape.trans h.tape, k.output.trans h.output, Nat.le_trans h.size k.size, fun i hi hn =>
    (k.block i (Nat.lt_of_lt_of_le hi h.size) (fun hS => hS.elim hn (fun h' => by omega))).trans (h.block i hi hn)⟩
theorem Touch.of_below {S : Nat → Prop} {w w' : World} (h : Below w.heap.size w w') : Touch S w w' :=
  ⟨h.os, h.tape, h.output, h.size, fun k hk _ => h.block k hk⟩
theorem Touch.below {S : Nat → Prop} {w w' : World} (h : Touch S w w') {B : Nat} (hB : B ≤ w.heap.size) (hS : ∀ k, k < B → ¬ S k) : Below B w w' :=
  ⟨h.os, h.tape, h.output, h.size, fun k hk => h.block k (by omega) (hS k hk)⟩
theorem Touch.alloc {S : Nat → Prop} {a w : World} (h : Touch S a w) (o : Obj) : Touch S a (w.alloc o) :=
  h.trans ⟨rfl, rfl, rfl, by simp, fun k hk _ => Below.heap_alloc _ _ _ hk⟩
theorem Touch.setCell {S : Nat → Prop} {a w : World} (h : Touch S a w) {p : Addr} (hp : S p.block ∨ a.heap.size ≤ p.block) (u : Value) : Touch S a (w.setCell p u) :=
  h.trans ⟨rfl, rfl, rfl, by simp [World.setCell], fun k _ hn => Below.heap_setCell _ _ _ _ (fun e => hn (by subst e; exact hp))⟩
theorem Touch.putObj {S : Nat → Prop} {a w : World} (h : Touch S a w) {p : Nat} (hp : S p ∨ a.heap.size ≤ p) (o : Obj) : Touch S a (w.putObj p o) :=
  h.trans ⟨rfl, rfl, rfl, by simp [World.putObj], fun k _ hn => World.putObj_heap_other (fun e => hn (by subst e; exact hp))⟩
theorem Touch.drew {S : Nat → Prop} {a w : World} (h : Touch S a w) : Touch S a w.drew := ⟨h.os, h.tape, h.output, h.size, h.block⟩
theorem Touch.drewN {S : Nat → Prop} {a w : World} (h : Touch S a w) (n : Nat) : Touch S a (w.drewN n) := ⟨h.os, h.tape, h.output, h.size, h.block⟩
theorem Touch.grownBy {S : Nat → Prop} {a w w' : World} (h : Touch S a w) {row : Option Nat} (hg : w.grownBy w' row) (hr : ∀ k, row = some k → S k ∨ a.heap.size ≤ k) : Touch S a w' :=
  h.trans ⟨hg.os, hg.tape, hg.output, hg.size, fun k hk hn => hg.block k hk (fun e => hn (hr k e.symm))⟩
theorem Touch.heap {S : Nat → Prop} {w w' : World} (h : Touch S w w') {k : Nat} {o : Obj} (ho : w.heap[k]? = some o) (hn : ¬ S k) : w'.heap[k]? = some o :=
  (h.block k (Array.getElem?_eq_some_iff.1 ho).1 hn).trans ho
theorem below_heap {w w' : World} (h : Below w.heap.size w w') {k : Nat} {o : Obj} (ho : w.heap[k]? = some o) : w'.heap[k]? = some o :=
  (h.block k (Array.getElem?_eq_some_iff.1 ho).1).trans ho

/-! ### Directories -/
theorem find_none {l : Dir} {n : ByteArray} (h : ∀ p ∈ l, p.1 ≠ n) : find l n = none ∧ erase n l = l ∧ ∀ i, put l n i = l ++ [(n, i)] := by
  induction l with
  | nil => simp [find, erase, put]
  | cons p l ih =>
    have h1 := h p (by simp)
    obtain ⟨a, b, c⟩ := ih (fun q hq => h q (by simp [hq]))
    simp [find, erase, put, h1, a, b, c]
theorem find_some {l : Dir} {n : ByteArray} (j : Nat) (x : Nat) (hn : (l.map (·.1)).Nodup) (h : l[j]? = some (n, x)) :
    find l n = some x ∧ erase n l = l.eraseIdx j ∧ ∀ i, put l n i = l.set j (n, i) := by
  induction l generalizing j with
  | nil => simp at h
  | cons p l ih =>
    simp only [List.map_cons, List.nodup_cons] at hn
    cases j with
    | zero =>
      simp at h
      subst h
      simp [find, erase, put]
    | succ j =>
      have hj : l[j]? = some (n, x) := by simpa using h
      have hne : p.1 ≠ n := fun e => hn.1 (by
        rw [e]
        exact List.mem_map.2 ⟨_, List.mem_of_getElem? hj, rfl⟩)
      obtain ⟨a, b, c⟩ := ih j hn.2 hj
      simp [find, erase, put, hne, a, b, c]

/-- Block b is a map that holds the pairs of l, in this order. -/
def DirAt (w : World) (b : Nat) (ptr : Nat → Value) (l : Dir) : Prop :=
  ∃ es clock, w.heap[b]? = some (.map es clock) ∧ Stamped es clock ∧ es.toList.map (fun e => (e.key, e.val)) = l.map (fun p => (Value.string p.1, ptr p.2))

theorem DirAt.lt {w : World} {b : Nat} {ptr : Nat → Value} {l : Dir} (h : DirAt w b ptr l) : b < w.heap.size := by
  obtain ⟨es, c, h, _⟩ := h
  exact (Array.getElem?_eq_some_iff.1 h).1
theorem DirAt.of_heap {w w' : World} {b : Nat} {ptr : Nat → Value} {l : Dir} (h : DirAt w b ptr l) (hh : w'.heap[b]? = w.heap[b]?) : DirAt w' b ptr l := by
  obtain ⟨es, c, h, r⟩ := h
  exact ⟨es, c, hh.trans h, r⟩

theorem keys_of {es : List MapEntry} {ptr : Nat → Value} {l : Dir} (h : es.map (fun e => (e.key, e.val)) = l.map (fun p => (Value.string p.1, ptr p.2))) : es.map (·.key) = l.map (fun p => Value.string p.1) := by
  have := congrArg (List.map Prod.fst) h
  simpa [List.map_map, Function.comp_def] using this
theorem DirAt.nodup {w : World} {b : Nat} {ptr : Nat → Value} {l : Dir} (h : DirAt w b ptr l) : (l.map (·.1)).Nodup := by
  obtain ⟨es, c, _, ⟨_, _, h3⟩, hm⟩ := h
  rw [keys_of hm] at h3
  have : (l.map (fun p => Value.string p.1)) = (l.map (·.1)).map Value.string := by simp [List.map_map, Function.comp_def]
  rw [this] at h3
  exact List.Pairwise.of_map _ (fun a b hne e => hne (by rw [e])) h3
theorem isKeys_of {es : List MapEntry} {ptr : Nat → Value} {l : Dir} (h : es.map (fun e => (e.key, e.val)) = l.map (fun p => (Value.string p.1, ptr p.2))) : ∀ x ∈ es, IsKey .string x.key := by
  intro x hx
  have : x.key ∈ es.map (·.key) := List.mem_map.2 ⟨x, hx, rfl⟩
  rw [keys_of h] at this
  obtain ⟨p, _, e⟩ := List.mem_map.1 this
  rw [← e]
  trivial

/-- where a key stands -/
theorem spot {es : List MapEntry} {ptr : Nat → Value} {l : Dir} (h : es.map (fun e => (e.key, e.val)) = l.map (fun p => (Value.string p.1, ptr p.2))) (s : ByteArray) :
    (Instr.findNow .string (.string s) es 0 = some none ∧ ∀ p ∈ l, p.1 ≠ s) ∨
    ∃ j e x, Instr.findNow .string (.string s) es 0 = some (some (j, e.val)) ∧ es[j]? = some e ∧ e.key = .string s ∧ l[j]? = some (s, x) ∧ e.val = ptr x := by
  rcases MapKept.findNow_spec (d := .string) (k := .string s) trivial es 0 (isKeys_of h) with ⟨h1, h2⟩ | ⟨j, e, h1, h2, h3⟩
  · refine .inl ⟨h1, fun p hp e => ?_⟩
    have hk : Value.string p.1 ∈ es.map (·.key) := by rw [keys_of h]; exact List.mem_map.2 ⟨p, hp, rfl⟩
    obtain ⟨x, hx, hxe⟩ := List.mem_map.1 hk
    exact h2 x hx (by rw [hxe, e])
  · have hj := congrArg (fun l => l[j]?) h
    simp only [List.getElem?_map, h2, Option.map_some] at hj
    cases hl : l[j]? with
    | none => rw [hl] at hj; simp at hj
    | some p =>
      rw [hl] at hj
      simp only [Option.map_some, Option.some.injEq, Prod.mk.injEq] at hj
      obtain ⟨k, x⟩ := p
      have : k = s := by have := hj.1.symm.trans h3; simpa using this
      subst this
      exact .inr ⟨j, e, x, by simpa using h1, h2, h3, hl, hj.2⟩

section
variable {P : Program} {T K E : TypeId} {w : World} {b : Nat} {ptr : Nat → Value} {l : Dir}

theorem DirAt.lookup (h : DirAt w b ptr l) (hT : P.underlying T = some (.map K E)) (hK : P.underlying K = some .string) (hz : ∀ w, (zeroValue E).run P w = .ok (.pointer none) w) (s : ByteArray) :
    (Instr.lookup T (.map (some b)) (.string s) false).run P w = .ok ((find l s).elim (.pointer none) ptr) w := by
  have hn := h.nodup
  obtain ⟨es, c, hb, hs, hm⟩ := h
  rcases spot hm s with ⟨h1, h2⟩ | ⟨j, e, x, h1, h2, h3, h4, h5⟩
  · rw [(find_none h2).1]
    simp [Instr.lookup, run_underlying hT, MapKept.run_getObj_map hb, MapKept.run_checkKey hK (k := .string s) trivial, MapKept.run_findKey hK h1, hz, Result.andThen]
  · rw [(find_some j x hn h4).1]
    simp [Instr.lookup, run_underlying hT, MapKept.run_getObj_map hb, MapKept.run_checkKey hK (k := .string s) trivial, MapKept.run_findKey hK h1, Result.andThen, h5]

theorem DirAt.update (h : DirAt w b ptr l) (hT : P.underlying T = some (.map K E)) (hK : P.underlying K = some .string) (s : ByteArray) (i : Nat) :
    ∃ o, (Instr.mapUpdate T (.map (some b)) (.string s) (ptr i)).run P w = .ok () (w.putObj b o) ∧ DirAt (w.putObj b o) b ptr (put l s i) := by
  have hn := h.nodup
  have hlt := h.lt
  obtain ⟨es, c, hb, hs, hm⟩ := h
  rcases spot hm s with ⟨h1, h2⟩ | ⟨j, e, x, h1, h2, h3, h4, h5⟩
  · refine ⟨.map (es.push { key := .string s, val := ptr i, born := c }) (c + 1), ?_, ?_⟩
    · simp [Instr.mapUpdate, run_underlying hT, MapKept.run_getObj_map hb, MapKept.run_checkKey hK (k := .string s) trivial, MapKept.run_findKey hK h1, MapKept.run_setObj_map _ hb, Result.andThen, World.putObj]
    · refine ⟨_, _, World.putObj_heap_same hlt, ?_, ?_⟩
      · refine MapKept.stamped_push hs (fun x hx e => ?_)
        have : x.key ∈ es.toList.map (·.key) := List.mem_map.2 ⟨x, hx, rfl⟩
        rw [keys_of hm] at this
        obtain ⟨p, hp, e'⟩ := List.mem_map.1 this
        rw [e] at e'
        exact h2 p hp (by simpa using e')
      · rw [(find_none h2).2.2]
        simp [hm]
  · refine ⟨.map (es.modify j fun e => { e with key := .string s, val := ptr i }) c, ?_, ?_⟩
    · have hj : es[j]? = some e := by simpa using h2
      simp [Instr.mapUpdate, run_underlying hT, MapKept.run_getObj_map hb, MapKept.run_checkKey hK (k := .string s) trivial, MapKept.run_findKey hK h1, hj, h3, MapKept.run_keyThatStays (d := .string) (k := .string s) trivial, MapKept.run_setObj_map _ hb, Result.andThen, World.putObj]
    · refine ⟨_, _, World.putObj_heap_same hlt, ?_, ?_⟩
      · refine MapKept.stamped_modify hs j _ (fun e _ => rfl) (fun e' _ he' => ?_)
        have hj : es[j]? = some e := by simpa using h2
        rw [hj] at he'
        cases he'
        exact h3.symm
      · rw [(find_some j x hn h4).2.2]
        rw [List.map_set, ← hm]
        have hj : es.toList[j]? = some e := h2
        apply List.ext_getElem?
        intro q
        simp only [List.getElem?_map, List.getElem?_set, Array.getElem?_toList, Array.getElem?_modify]
        by_cases e1 : j = q
        · subst e1
          rw [← Array.getElem?_toList, hj]
          have : j < es.size := by have := (List.getElem?_eq_some_iff.1 hj).1; simpa using this
          simp [this]
        · simp [e1]

theorem DirAt.delete (h : DirAt w b ptr l) (hT : P.underlying T = some (.map K E)) (hK : P.underlying K = some .string) (s : ByteArray) (ty : TypeId) :
    ∃ o, (Builtin.delete_ #[T, K] ty #[.map (some b), .string s]).run P w = .ok (.tuple #[]) (w.putObj b o) ∧ DirAt (w.putObj b o) b ptr (erase s l) := by
  have hn := h.nodup
  have hlt := h.lt
  obtain ⟨es, c, hb, hs, hm⟩ := h
  rcases spot hm s with ⟨h1, h2⟩ | ⟨j, e, x, h1, h2, h3, h4, h5⟩
  · refine ⟨.map es c, ?_, ?_⟩
    · simp [Builtin.delete_, run_underlying hT, MapKept.run_getObj_map hb, MapKept.run_checkKey hK (k := .string s) trivial, MapKept.run_findKey hK h1, MapKept.run_setObj_map _ hb, Result.andThen, World.putObj]
    · refine ⟨_, _, World.putObj_heap_same hlt, hs, ?_⟩
      rw [(find_none h2).2.1]; exact hm
  · refine ⟨.map (es.eraseIdxIfInBounds j) c, ?_, ?_⟩
    · simp [Builtin.delete_, run_underlying hT, MapKept.run_getObj_map hb, MapKept.run_checkKey hK (k := .string s) trivial, MapKept.run_findKey hK h1, MapKept.run_setObj_map _ hb, Result.andThen, World.putObj]
    · refine ⟨_, _, World.putObj_heap_same hlt, MapKept.stamped_erase hs j, ?_⟩
      rw [(find_some j x hn h4).2.1]
      have hj : j < es.size := by have := (List.getElem?_eq_some_iff.1 h2).1; simpa using this
      unfold Array.eraseIdxIfInBounds
      rw [dif_pos hj, Array.toList_eraseIdx, Go.ChangeMaps.map_eraseIdx, hm, Go.ChangeMaps.map_eraseIdx]

theorem DirAt.len (h : DirAt w b ptr l) (hT : P.underlying T = some (.map K E)) (ty : TypeId) :
    (Builtin.len_ #[T] ty #[.map (some b)]).run P w = .ok (.int .i64 l.length) w := by
  obtain ⟨es, c, hb, hs, hm⟩ := h
  have e : es.size = l.length := by have := congrArg List.length hm; simpa using this
  simp [Builtin.len_, Builtin.lenOf, run_underlying hT, MapKept.run_getObj_map hb, Result.andThen, e, goInt]

theorem DirAt.made (w : World) (ptr : Nat → Value) : DirAt (w.alloc (.map #[] 0)) w.heap.size ptr [] :=
  ⟨#[], 0, World.alloc_heap_new w _, MapKept.stamped_empty 0, rfl⟩
theorem DirAt.alloc (h : DirAt w b ptr l) (o : Obj) : DirAt (w.alloc o) b ptr l := h.of_heap (Below.heap_alloc _ _ _ h.lt)
theorem DirAt.setCell (h : DirAt w b ptr l) (p : Addr) (u : Value) : DirAt (w.setCell p u) b ptr l := by
  by_cases e : b = p.block
  · obtain ⟨es, c, hb, r⟩ := h
    refine ⟨es, c, ?_, r⟩
    simp only [World.setCell, Array.getElem?_modify]
    rw [if_pos e.symm, hb]
    rfl
  · exact h.of_heap (Below.heap_setCell _ _ _ _ e)
theorem DirAt.drew (h : DirAt w b ptr l) : DirAt w.drew b ptr l := h
theorem DirAt.drewN (h : DirAt w b ptr l) (n : Nat) : DirAt (w.drewN n) b ptr l := h
theorem DirAt.putObj (h : DirAt w b ptr l) {k : Nat} (hk : b ≠ k) (o : Obj) : DirAt (w.putObj k o) b ptr l := h.of_heap (World.putObj_heap_other hk)

section
variable {ops : Array Oper} {rest : List Oper} {o : Oper} {a : Act} {Q : Exit → Act → World → Prop}
theorem wpList_update_dir (hg : o.guard = none) (m x v : Operand) (T K E : TypeId) (hop : o.op = Op.mapUpdate T m x v) (hT : P.underlying T = some (.map K E)) (hK : P.underlying K = some .string)
    (h : DirAt w b ptr l) (hm : a.eval m = .map (some b)) (s : ByteArray) (i : Nat) (hx : a.eval x = .string s) (hv : a.eval v = ptr i)
    (hk : ∀ o', DirAt (w.putObj b o') b ptr (put l s i) → wpList P ops Q rest (a.put o.dst undef) (w.putObj b o')) : wpList P ops Q (o :: rest) a w := by
  refine wpList_plain hg fun K' hK' => ?_
  obtain ⟨o', hrun, hd⟩ := h.update hT hK s i
  unfold Oper.wp
  simp [execOp, hop, hm, hx, hv, hrun, Result.andThen]
  exact hK' _ _ (hk o' hd)
theorem wpList_delete_dir (hg : o.guard = none) (m x : Operand) (T K E : TypeId) (hop : o.op = Op.call { callee := Callee.builtin Builtin.delete, args := #[m, x], argTypes := #[T, K] }) (hT : P.underlying T = some (.map K E)) (hK : P.underlying K = some .string)
    (h : DirAt w b ptr l) (hm : a.eval m = .map (some b)) (s : ByteArray) (hx : a.eval x = .string s)
    (hk : ∀ o', DirAt (w.putObj b o') b ptr (erase s l) → wpList P ops Q rest (a.put o.dst (.tuple #[])) (w.putObj b o')) : wpList P ops Q (o :: rest) a w := by
  refine wpList_plain hg fun K' hK' => ?_
  obtain ⟨o', hrun, hd⟩ := h.delete hT hK s o.type
  unfold Oper.wp
  simp [execOp, hop, resolve, invoke, builtin, hm, hx, hrun, Result.andThen]
  exact hK' _ _ (hk o' hd)
end
end

/-! ### Plans -/
theorem findI_none {l : IMap} {n : Int} (h : ∀ p ∈ l, p.1 ≠ n) : findI l n = none ∧ eraseI n l = l ∧ ∀ i, putI l n i = l ++ [(n, i)] := by
  induction l with
  | nil => simp [findI, eraseI, putI]
  | cons p l ih =>
    have h1 := h p (by simp)
    obtain ⟨a, b, c⟩ := ih (fun q hq => h q (by simp [hq]))
    simp [findI, eraseI, putI, h1, a, b, c]
theorem findI_some {l : IMap} {n : Int} (j : Nat) (x : Int) (hn : (l.map (·.1)).Nodup) (h : l[j]? = some (n, x)) :
    findI l n = some x ∧ eraseI n l = l.eraseIdx j ∧ ∀ i, putI l n i = l.set j (n, i) := by
  induction l generalizing j with
  | nil => simp at h
  | cons p l ih =>
    simp only [List.map_cons, List.nodup_cons] at hn
    cases j with
    | zero =>
      simp at h
      subst h
      simp [findI, eraseI, putI]
    | succ j =>
      have hj : l[j]? = some (n, x) := by simpa using h
      have hne : p.1 ≠ n := fun e => hn.1 (by
        rw [e]
        exact List.mem_map.2 ⟨_, List.mem_of_getElem? hj, rfl⟩)
      obtain ⟨a, b, c⟩ := ih j hn.2 hj
      simp [findI, eraseI, putI, hne, a, b, c]

/-- Block b is a map that holds the pairs of l, in this order. -/
def PlanAt (w : World) (b : Nat) (ptr : Int → Value) (l : IMap) : Prop :=
  ∃ es clock, w.heap[b]? = some (.map es clock) ∧ Stamped es clock ∧ es.toList.map (fun e => (e.key, e.val)) = l.map (fun p => (Value.int .i64 p.1, ptr p.2))

theorem PlanAt.lt {w : World} {b : Nat} {ptr : Int → Value} {l : IMap} (h : PlanAt w b ptr l) : b < w.heap.size := by
  obtain ⟨es, c, h, _⟩ := h
  exact (Array.getElem?_eq_some_iff.1 h).1
theorem PlanAt.of_heap {w w' : World} {b : Nat} {ptr : Int → Value} {l : IMap} (h : PlanAt w b ptr l) (hh : w'.heap[b]? = w.heap[b]?) : PlanAt w' b ptr l := by
  obtain ⟨es, c, h, r⟩ := h
  exact ⟨es, c, hh.trans h, r⟩

theorem keysI_of {es : List MapEntry} {ptr : Int → Value} {l : IMap} (h : es.map (fun e => (e.key, e.val)) = l.map (fun p => (Value.int .i64 p.1, ptr p.2))) : es.map (·.key) = l.map (fun p => Value.int .i64 p.1) := by
  have := congrArg (List.map Prod.fst) h
  simpa [List.map_map, Function.comp_def] using this
theorem PlanAt.nodup {w : World} {b : Nat} {ptr : Int → Value} {l : IMap} (h : PlanAt w b ptr l) : (l.map (·.1)).Nodup := by
  obtain ⟨es, c, _, ⟨_, _, h3⟩, hm⟩ := h
  rw [keysI_of hm] at h3
  have : (l.map (fun p => Value.int .i64 p.1)) = (l.map (·.1)).map (fun x => Value.int .i64 x) := by simp [List.map_map, Function.comp_def]
  rw [this] at h3
  exact List.Pairwise.of_map _ (fun a b hne e => hne (by rw [e])) h3
theorem isKeysI_of {es : List MapEntry} {ptr : Int → Value} {l : IMap} (h : es.map (fun e => (e.key, e.val)) = l.map (fun p => (Value.int .i64 p.1, ptr p.2))) : ∀ x ∈ es, IsKey (.int .i64) x.key := by
  intro x hx
  have : x.key ∈ es.map (·.key) := List.mem_map.2 ⟨x, hx, rfl⟩
  rw [keysI_of h] at this
  obtain ⟨p, _, e⟩ := List.mem_map.1 this
  rw [← e]
  rfl

/-- where a key stands -/
theorem spotI {es : List MapEntry} {ptr : Int → Value} {l : IMap} (h : es.map (fun e => (e.key, e.val)) = l.map (fun p => (Value.int .i64 p.1, ptr p.2))) (s : Int) :
    (Instr.findNow (.int .i64) (.int .i64 s) es 0 = some none ∧ ∀ p ∈ l, p.1 ≠ s) ∨
    ∃ j e x, Instr.findNow (.int .i64) (.int .i64 s) es 0 = some (some (j, e.val)) ∧ es[j]? = some e ∧ e.key = .int .i64 s ∧ l[j]? = some (s, x) ∧ e.val = ptr x := by
  rcases MapKept.findNow_spec (d := .int .i64) (k := .int .i64 s) rfl es 0 (isKeysI_of h) with ⟨h1, h2⟩ | ⟨j, e, h1, h2, h3⟩
  · refine .inl ⟨h1, fun p hp e => ?_⟩
    have hk : Value.int .i64 p.1 ∈ es.map (·.key) := by rw [keysI_of h]; exact List.mem_map.2 ⟨p, hp, rfl⟩
    obtain ⟨x, hx, hxe⟩ := List.mem_map.1 hk
    exact h2 x hx (by rw [hxe, e])
  · have hj := congrArg (fun l => l[j]?) h
    simp only [List.getElem?_map, h2, Option.map_some] at hj
    cases hl : l[j]? with
    | none => rw [hl] at hj; simp at hj
    | some p =>
      rw [hl] at hj
      simp only [Option.map_some, Option.some.injEq, Prod.mk.injEq] at hj
      obtain ⟨k, x⟩ := p
      have : k = s := by have := hj.1.symm.trans h3; simpa using this
      subst this
      exact .inr ⟨j, e, x, by simpa using h1, h2, h3, hl, hj.2⟩

section
variable {P : Program} {T K E : TypeId} {w : World} {b : Nat} {ptr : Int → Value} {l : IMap}

theorem PlanAt.lookup (h : PlanAt w b ptr l) (hT : P.underlying T = some (.map K E)) (hK : P.underlying K = some (.int .i64)) (hz : ∀ w, (zeroValue E).run P w = .ok (ptr 0) w) (s : Int) :
    (Instr.lookup T (.map (some b)) (.int .i64 s) false).run P w = .ok ((findI l s).elim (ptr 0) ptr) w := by
  have hn := h.nodup
  obtain ⟨es, c, hb, hs, hm⟩ := h
  rcases spotI hm s with ⟨h1, h2⟩ | ⟨j, e, x, h1, h2, h3, h4, h5⟩
  · rw [(findI_none h2).1]
    simp [Instr.lookup, run_underlying hT, MapKept.run_getObj_map hb, MapKept.run_checkKey hK (k := .int .i64 s) rfl, MapKept.run_findKey hK h1, hz, Result.andThen]
  · rw [(findI_some j x hn h4).1]
    simp [Instr.lookup, run_underlying hT, MapKept.run_getObj_map hb, MapKept.run_checkKey hK (k := .int .i64 s) rfl, MapKept.run_findKey hK h1, Result.andThen, h5]

theorem PlanAt.update (h : PlanAt w b ptr l) (hT : P.underlying T = some (.map K E)) (hK : P.underlying K = some (.int .i64)) (s : Int) (i : Int) :
    ∃ o, (Instr.mapUpdate T (.map (some b)) (.int .i64 s) (ptr i)).run P w = .ok () (w.putObj b o) ∧ PlanAt (w.putObj b o) b ptr (putI l s i) := by
  have hn := h.nodup
  have hlt := h.lt
  obtain ⟨es, c, hb, hs, hm⟩ := h
  rcases spotI hm s with ⟨h1, h2⟩ | ⟨j, e, x, h1, h2, h3, h4, h5⟩
  · refine ⟨.map (es.push { key := .int .i64 s, val := ptr i, born := c }) (c + 1), ?_, ?_⟩
    · simp [Instr.mapUpdate, run_underlying hT, MapKept.run_getObj_map hb, MapKept.run_checkKey hK (k := .int .i64 s) rfl, MapKept.run_findKey hK h1, MapKept.run_setObj_map _ hb, Result.andThen, World.putObj]
    · refine ⟨_, _, World.putObj_heap_same hlt, ?_, ?_⟩
      · refine MapKept.stamped_push hs (fun x hx e => ?_)
        have : x.key ∈ es.toList.map (·.key) := List.mem_map.2 ⟨x, hx, rfl⟩
        rw [keysI_of hm] at this
        obtain ⟨p, hp, e'⟩ := List.mem_map.1 this
        rw [e] at e'
        exact h2 p hp (by simpa using e')
      · rw [(findI_none h2).2.2]
        simp [hm]
  · refine ⟨.map (es.modify j fun e => { e with key := .int .i64 s, val := ptr i }) c, ?_, ?_⟩
    · have hj : es[j]? = some e := by simpa using h2
      simp [Instr.mapUpdate, run_underlying hT, MapKept.run_getObj_map hb, MapKept.run_checkKey hK (k := .int .i64 s) rfl, MapKept.run_findKey hK h1, hj, h3, MapKept.run_keyThatStays (d := .int .i64) (k := .int .i64 s) rfl, MapKept.run_setObj_map _ hb, Result.andThen, World.putObj]
    · refine ⟨_, _, World.putObj_heap_same hlt, ?_, ?_⟩
      · refine MapKept.stamped_modify hs j _ (fun e _ => rfl) (fun e' _ he' => ?_)
        have hj : es[j]? = some e := by simpa using h2
        rw [hj] at he'
        cases he'
        exact h3.symm
      · rw [(findI_some j x hn h4).2.2]
        rw [List.map_set, ← hm]
        have hj : es.toList[j]? = some e := h2
        apply List.ext_getElem?
        intro q
        simp only [List.getElem?_map, List.getElem?_set, Array.getElem?_toList, Array.getElem?_modify]
        by_cases e1 : j = q
        · subst e1
          rw [← Array.getElem?_toList, hj]
          have : j < es.size := by have := (List.getElem?_eq_some_iff.1 hj).1; simpa using this
          simp [this]
        · simp [e1]

theorem PlanAt.delete (h : PlanAt w b ptr l) (hT : P.underlying T = some (.map K E)) (hK : P.underlying K = some (.int .i64)) (s : Int) (ty : TypeId) :
    ∃ o, (Builtin.delete_ #[T, K] ty #[.map (some b), .int .i64 s]).run P w = .ok (.tuple #[]) (w.putObj b o) ∧ PlanAt (w.putObj b o) b ptr (eraseI s l) := by
  have hn := h.nodup
  have hlt := h.lt
  obtain ⟨es, c, hb, hs, hm⟩ := h
  rcases spotI hm s with ⟨h1, h2⟩ | ⟨j, e, x, h1, h2, h3, h4, h5⟩
  · refine ⟨.map es c, ?_, ?_⟩
    · simp [Builtin.delete_, run_underlying hT, MapKept.run_getObj_map hb, MapKept.run_checkKey hK (k := .int .i64 s) rfl, MapKept.run_findKey hK h1, MapKept.run_setObj_map _ hb, Result.andThen, World.putObj]
    · refine ⟨_, _, World.putObj_heap_same hlt, hs, ?_⟩
      rw [(findI_none h2).2.1]; exact hm
  · refine ⟨.map (es.eraseIdxIfInBounds j) c, ?_, ?_⟩
    · simp [Builtin.delete_, run_underlying hT, MapKept.run_getObj_map hb, MapKept.run_checkKey hK (k := .int .i64 s) rfl, MapKept.run_findKey hK h1, MapKept.run_setObj_map _ hb, Result.andThen, World.putObj]
    · refine ⟨_, _, World.putObj_heap_same hlt, MapKept.stamped_erase hs j, ?_⟩
      rw [(findI_some j x hn h4).2.1]
      have hj : j < es.size := by have := (List.getElem?_eq_some_iff.1 h2).1; simpa using this
      unfold Array.eraseIdxIfInBounds
      rw [dif_pos hj, Array.toList_eraseIdx, Go.ChangeMaps.map_eraseIdx, hm, Go.ChangeMaps.map_eraseIdx]

theorem PlanAt.len (h : PlanAt w b ptr l) (hT : P.underlying T = some (.map K E)) (ty : TypeId) :
    (Builtin.len_ #[T] ty #[.map (some b)]).run P w = .ok (.int .i64 l.length) w := by
  obtain ⟨es, c, hb, hs, hm⟩ := h
  have e : es.size = l.length := by have := congrArg List.length hm; simpa using this
  simp [Builtin.len_, Builtin.lenOf, run_underlying hT, MapKept.run_getObj_map hb, Result.andThen, e, goInt]

theorem PlanAt.made (w : World) (ptr : Int → Value) : PlanAt (w.alloc (.map #[] 0)) w.heap.size ptr [] :=
  ⟨#[], 0, World.alloc_heap_new w _, MapKept.stamped_empty 0, rfl⟩
theorem PlanAt.alloc (h : PlanAt w b ptr l) (o : Obj) : PlanAt (w.alloc o) b ptr l := h.of_heap (Below.heap_alloc _ _ _ h.lt)
theorem PlanAt.setCell (h : PlanAt w b ptr l) (p : Addr) (u : Value) : PlanAt (w.setCell p u) b ptr l := by
  by_cases e : b = p.block
  · obtain ⟨es, c, hb, r⟩ := h
    refine ⟨es, c, ?_, r⟩
    simp only [World.setCell, Array.getElem?_modify]
    rw [if_pos e.symm, hb]
    rfl
  · exact h.of_heap (Below.heap_setCell _ _ _ _ e)
theorem PlanAt.drew (h : PlanAt w b ptr l) : PlanAt w.drew b ptr l := h
theorem PlanAt.drewN (h : PlanAt w b ptr l) (n : Nat) : PlanAt (w.drewN n) b ptr l := h
theorem PlanAt.putObj (h : PlanAt w b ptr l) {k : Nat} (hk : b ≠ k) (o : Obj) : PlanAt (w.putObj k o) b ptr l := h.of_heap (World.putObj_heap_other hk)

section
variable {ops : Array Oper} {rest : List Oper} {o : Oper} {a : Act} {Q : Exit → Act → World → Prop}
theorem wpList_update_plan (hg : o.guard = none) (m x v : Operand) (T K E : TypeId) (hop : o.op = Op.mapUpdate T m x v) (hT : P.underlying T = some (.map K E)) (hK : P.underlying K = some (.int .i64))
    (h : PlanAt w b ptr l) (hm : a.eval m = .map (some b)) (s : Int) (i : Int) (hx : a.eval x = .int .i64 s) (hv : a.eval v = ptr i)
    (hk : ∀ o', PlanAt (w.putObj b o') b ptr (putI l s i) → wpList P ops Q rest (a.put o.dst undef) (w.putObj b o')) : wpList P ops Q (o :: rest) a w := by
  refine wpList_plain hg fun K' hK' => ?_
  obtain ⟨o', hrun, hd⟩ := h.update hT hK s i
  unfold Oper.wp
  simp [execOp, hop, hm, hx, hv, hrun, Result.andThen]
  exact hK' _ _ (hk o' hd)
theorem wpList_delete_plan (hg : o.guard = none) (m x : Operand) (T K E : TypeId) (hop : o.op = Op.call { callee := Callee.builtin Builtin.delete, args := #[m, x], argTypes := #[T, K] }) (hT : P.underlying T = some (.map K E)) (hK : P.underlying K = some (.int .i64))
    (h : PlanAt w b ptr l) (hm : a.eval m = .map (some b)) (s : Int) (hx : a.eval x = .int .i64 s)
    (hk : ∀ o', PlanAt (w.putObj b o') b ptr (eraseI s l) → wpList P ops Q rest (a.put o.dst (.tuple #[])) (w.putObj b o')) : wpList P ops Q (o :: rest) a w := by
  refine wpList_plain hg fun K' hK' => ?_
  obtain ⟨o', hrun, hd⟩ := h.delete hT hK s o.type
  unfold Oper.wp
  simp [execOp, hop, resolve, invoke, builtin, hm, hx, hrun, Result.andThen]
  exact hK' _ _ (hk o' hd)
end
end
end Go.Proofs.Ythdncdhgnoggkaa
