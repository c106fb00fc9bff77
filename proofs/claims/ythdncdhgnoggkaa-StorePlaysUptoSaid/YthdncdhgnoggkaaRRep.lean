/-
  How the reference's disk lies in memory, and what keeps it.
  Conditions: the disk lies in blocks of S.
-/
import Derived.Test.YthdncdhgnoggkaaRNames
import Derived.Test.YthdncdhgnoggkaaPlan
set_option linter.unusedSimpArgs false
set_option linter.unusedVariables false
namespace Go.Proofs.Ythdncdhgnoggkaa
open Go.RowKit

/-- Pairs that are read, at the head of a block. -/
def PairsIn (S : Nat → Prop) (w : World) (t : TypeId) (v : Value) (cs : List (Value × Value)) : Prop :=
  ∃ A c, v = .slice A cs.length c ∧ cs.length ≤ c ∧ cs.length ≤ 70368744177664 ∧ (0 < cs.length → ∃ b cur fr, A = some ⟨b, 0, none⟩ ∧ S b ∧ w.heap[b]? = some (.cells cur t fr) ∧ ∀ (j : Nat) (p : Value × Value), cs[j]? = some p → cur[j * 2]? = some p.1 ∧ cur[j * 2 + 1]? = some p.2)
theorem PairsIn.keep {S S' : Nat → Prop} {w w' : World} {t : TypeId} {v : Value} {cs : List (Value × Value)} (h : PairsIn S w t v cs) (hS : ∀ k, S k → S' k) (hk : ∀ k o, w.heap[k]? = some o → S k → et o = some t → w'.heap[k]? = some o) : PairsIn S' w' t v cs := by
  obtain ⟨A, c, e, hc, hl, hr⟩ := h
  refine ⟨A, c, e, hc, hl, fun hp => ?_⟩
  obtain ⟨b, cur, fr, e2, hs, hh, hc⟩ := hr hp
  exact ⟨b, cur, fr, e2, hS _ hs, hk _ _ hh hs rfl, hc⟩
theorem PairsIn.nil (S : Nat → Prop) (w : World) (t : TypeId) : PairsIn S w t (.slice none 0 0) [] := ⟨none, 0, rfl, Nat.le_refl _, by simp, fun h => by simp at h⟩
def flat2 (cs : List (Value × Value)) : List Value := cs.flatMap fun p => [p.1, p.2]
theorem flat2_length (cs : List (Value × Value)) : (flat2 cs).length = cs.length * 2 := by
  induction cs with
  | nil => rfl
  | cons p l ih => unfold flat2 at ih ⊢; rw [List.flatMap_cons, List.length_append, ih]; simp; omega
theorem flat2_at (cs : List (Value × Value)) : ∀ (j : Nat) (p : Value × Value), cs[j]? = some p → (flat2 cs)[j * 2]? = some p.1 ∧ (flat2 cs)[j * 2 + 1]? = some p.2 := by
  induction cs with
  | nil => intro j p h; simp at h
  | cons x l ih =>
    intro j p h
    have e : flat2 (x :: l) = x.1 :: x.2 :: flat2 l := rfl
    rw [e]
    cases j with
    | zero => simp at h; subst h; exact ⟨rfl, rfl⟩
    | succ j =>
      have := ih j p (by simpa using h)
      rw [show (j + 1) * 2 = j * 2 + 1 + 1 by omega]
      simpa using this
theorem flat2_append (a b : List (Value × Value)) : flat2 (a ++ b) = flat2 a ++ flat2 b := by unfold flat2; rw [List.flatMap_append]
/-- A row of one's own, as pairs. -/
theorem own_pairs {w : World} {base n : Nat} {t : TypeId} {v : Value} {cs : List (Value × Value)} (h : w.ownsRow base t 2 v n (flat2 cs)) (hl : cs.length ≤ 70368744177664) : PairsIn (fun k => base ≤ k) w t v cs := by
  have hn : n = cs.length := by have := h.1; rw [flat2_length] at this; omega
  subst hn
  rcases h.2 with ⟨rfl, e⟩ | ⟨g, cap, cur, rfl, hb, hh, h1, h2, h3, h4⟩
  · exact ⟨none, 0, by rw [e], by omega, hl, fun hp => by omega⟩
  · refine ⟨_, cap, rfl, h1, hl, fun hp => ⟨g, cur, (0, 0), rfl, hb, hh, fun j p hj => ?_⟩⟩
    obtain ⟨a1, a2⟩ := flat2_at cs j p hj
    have hjl := (List.getElem?_eq_some_iff.1 hj).1
    have key : ∀ i, i < cs.length * 2 → cur[i]? = (flat2 cs)[i]? := fun i hi => by
      have := congrArg (fun l => l[i]?) h4
      simp only [List.getElem?_take] at this
      rw [if_pos (by omega), Array.getElem?_toList] at this
      exact this
    rw [key _ (by omega), key _ (by omega)]
    exact ⟨a1, a2⟩
/-- What is read of pairs. -/
theorem PairsIn.cells {S : Nat → Prop} {w : World} {t : TypeId} {A : Option Addr} {n c : Nat} {cs : List (Value × Value)} (h : PairsIn S w t (.slice A n c) cs) {j : Nat} {p : Value × Value} (hj : cs[j]? = some p) :
    ∃ b, A = some ⟨b, 0, none⟩ ∧ b < w.heap.size ∧ w.cell? ⟨b, j * 2, none⟩ = some p.1 ∧ w.cell? ⟨b, j * 2 + 1, none⟩ = some p.2 := by
  obtain ⟨A', c', e, _, _, hr⟩ := h
  cases e
  have hjl := (List.getElem?_eq_some_iff.1 hj).1
  obtain ⟨b, cur, fr, e2, _, hh, hc⟩ := hr (by omega)
  obtain ⟨h1, h2⟩ := hc j p hj
  exact ⟨b, e2, (Array.getElem?_eq_some_iff.1 hh).1, by simp [World.cell?, hh, h1], by simp [World.cell?, hh, h2]⟩
theorem PairsIn.sl {S : Nat → Prop} {w : World} {t : TypeId} {v : Value} {cs : List (Value × Value)} (h : PairsIn S w t v cs) : ∃ A c, v = .slice A cs.length c ∧ cs.length ≤ 70368744177664 ∧ cs.length ≤ c := by
  obtain ⟨A, c, e, hc, hl, _⟩ := h
  exact ⟨A, c, e, hl, hc⟩

def entP (p : ByteArray × Int) : Value × Value := (.string p.1, .int .i64 p.2)
def intP (p : Int × Int) : Value × Value := (.int .i64 p.1, .int .i64 p.2)
def EntsIn (S : Nat → Prop) (w : World) (v : Value) (l : RDir) : Prop := PairsIn S w 91 v (l.map entP)
def RPlanIn (S : Nat → Prop) (w : World) (v : Value) (l : List (Int × Int)) : Prop := PairsIn S w 96 v (l.map intP)
theorem EntsIn.cells {S : Nat → Prop} {w : World} {A : Option Addr} {n c : Nat} {l : RDir} (h : EntsIn S w (.slice A n c) l) {j : Nat} {p : ByteArray × Int} (hj : l[j]? = some p) :
    ∃ b, A = some ⟨b, 0, none⟩ ∧ b < w.heap.size ∧ w.cell? ⟨b, j * 2, none⟩ = some (.string p.1) ∧ w.cell? ⟨b, j * 2 + 1, none⟩ = some (.int .i64 p.2) :=
  PairsIn.cells (p := entP p) h (by rw [List.getElem?_map, hj]; rfl)
theorem RPlanIn.cells {S : Nat → Prop} {w : World} {A : Option Addr} {n c : Nat} {l : List (Int × Int)} (h : RPlanIn S w (.slice A n c) l) {j : Nat} {p : Int × Int} (hj : l[j]? = some p) :
    ∃ b, A = some ⟨b, 0, none⟩ ∧ b < w.heap.size ∧ w.cell? ⟨b, j * 2, none⟩ = some (.int .i64 p.1) ∧ w.cell? ⟨b, j * 2 + 1, none⟩ = some (.int .i64 p.2) :=
  PairsIn.cells (p := intP p) h (by rw [List.getElem?_map, hj]; rfl)
theorem EntsIn.sl {S : Nat → Prop} {w : World} {v : Value} {l : RDir} (h : EntsIn S w v l) : ∃ A c, v = .slice A l.length c ∧ l.length ≤ 70368744177664 ∧ l.length ≤ c := by
  have := PairsIn.sl h
  rwa [List.length_map] at this
theorem RPlanIn.sl {S : Nat → Prop} {w : World} {v : Value} {l : List (Int × Int)} (h : RPlanIn S w v l) : ∃ A c, v = .slice A l.length c ∧ l.length ≤ 70368744177664 ∧ l.length ≤ c := by
  have := PairsIn.sl h
  rwa [List.length_map] at this
theorem EntsIn.below {S : Nat → Prop} {w w' : World} {v : Value} {l : RDir} (h : EntsIn S w v l) (hb : Below w.heap.size w w') : EntsIn S w' v l := PairsIn.keep h (fun _ hs => hs) (fun k o ho _ _ => below_heap hb ho)

structure RRep where
  lv : Value
  dv : Value
  sv : Value
  wv : Value
  pv : Value
  fv : List (Value × Value)
  wvs : List Value

structure RDiskRep (S : Nat → Prop) (w : World) (db : Nat) (s : RDk) (r : RRep) : Prop where
  sdb : S db
  blk : w.heap[db]? = some (.cells #[.int .i64 s.room, r.lv, r.dv, r.sv, r.wv, r.pv, .int .i64 s.src, .int .i64 s.n, .bool s.down] 56 (0, 0))
  rows : w.ownsRow 0 93 2 r.lv s.files.length (flat2 r.fv)
  rowS : ∀ k, r.lv.ownBlock = some k → S k
  files : ∀ (i : Nat) (f : Fil), s.files[i]? = some f → ∃ q, r.fv[i]? = some q ∧ BytesIn S w q.1 f.now ∧ BytesIn S w q.2 f.safe
  dir : EntsIn S w r.dv s.dir
  sdir : EntsIn S w r.sv s.sdir
  wait : w.ownsRow 0 53 1 r.wv s.wait.length r.wvs
  waitS : ∀ k, r.wv.ownBlock = some k → S k
  waits : ∀ (i : Nat) (l : RDir), s.wait[i]? = some l → ∃ v, r.wvs[i]? = some v ∧ EntsIn S w v l
  plan : RPlanIn S w r.pv s.plan
  inD : ∀ p ∈ s.dir, 0 ≤ p.2 ∧ p.2 < s.files.length
  inS : ∀ p ∈ s.sdir, 0 ≤ p.2 ∧ p.2 < s.files.length
  inW : ∀ l ∈ s.wait, ∀ p ∈ l, p.2 < s.files.length

/-- The reference's disk at block db, all of it in blocks of S. -/
def RDisk (S : Nat → Prop) (w : World) (db : Nat) (s : RDk) : Prop := ∃ r, RDiskRep S w db s r

section
variable {S S' : Nat → Prop} {w w' : World} {db : Nat} {s : RDk} {r : RRep}
/-- Types of what is never written. -/
def Still (o : Obj) : Prop := et o = some 5 ∨ et o = some 91 ∨ et o = some 96
theorem RDiskRep.filesK (h : RDiskRep S w db s r) (hS : ∀ k, S k → S' k) (hk : ∀ k o, w.heap[k]? = some o → S k → Still o → w'.heap[k]? = some o) :
    ∀ (i : Nat) (f : Fil), s.files[i]? = some f → ∃ q, r.fv[i]? = some q ∧ BytesIn S' w' q.1 f.now ∧ BytesIn S' w' q.2 f.safe := fun i f hf => by
  obtain ⟨q, h1, h2, h3⟩ := h.files i f hf
  exact ⟨q, h1, h2.keep hS (fun k o ho hs he => hk k o ho hs (.inl he)), h3.keep hS (fun k o ho hs he => hk k o ho hs (.inl he))⟩
theorem EntsIn.keepS {v : Value} {l : RDir} (h : EntsIn S w v l) (hS : ∀ k, S k → S' k) (hk : ∀ k o, w.heap[k]? = some o → S k → Still o → w'.heap[k]? = some o) : EntsIn S' w' v l := PairsIn.keep h hS (fun k o ho hs he => hk k o ho hs (.inr (.inl he)))
theorem RPlanIn.keepS {v : Value} {l : List (Int × Int)} (h : RPlanIn S w v l) (hS : ∀ k, S k → S' k) (hk : ∀ k o, w.heap[k]? = some o → S k → Still o → w'.heap[k]? = some o) : RPlanIn S' w' v l := PairsIn.keep h hS (fun k o ho hs he => hk k o ho hs (.inr (.inr he)))
theorem RDiskRep.waitsK (h : RDiskRep S w db s r) (hS : ∀ k, S k → S' k) (hk : ∀ k o, w.heap[k]? = some o → S k → Still o → w'.heap[k]? = some o) :
    ∀ (i : Nat) (l : RDir), s.wait[i]? = some l → ∃ v, r.wvs[i]? = some v ∧ EntsIn S' w' v l := fun i l hl => by
  obtain ⟨v, h1, h2⟩ := h.waits i l hl
  exact ⟨v, h1, h2.keepS hS hk⟩
theorem RDiskRep.keep (h : RDiskRep S w db s r) (hS : ∀ k, S k → S' k) (hk : ∀ k, S k → k < w.heap.size → w'.heap[k]? = w.heap[k]?) : RDiskRep S' w' db s r := by
  have hk' : ∀ k o, w.heap[k]? = some o → S k → w'.heap[k]? = some o := fun k o ho hs => (hk k hs (Array.getElem?_eq_some_iff.1 ho).1).trans ho
  have hk2 : ∀ k o, w.heap[k]? = some o → S k → Still o → w'.heap[k]? = some o := fun k o ho hs _ => hk' k o ho hs
  exact { sdb := hS _ h.sdb, blk := hk' _ _ h.blk h.sdb, rows := own_keep h.rows (fun k o ho hb _ => hk' k o ho (h.rowS k hb)), rowS := fun k e => hS _ (h.rowS k e), files := h.filesK hS hk2, dir := h.dir.keepS hS hk2, sdir := h.sdir.keepS hS hk2,
          wait := own_keep h.wait (fun k o ho hb _ => hk' k o ho (h.waitS k hb)), waitS := fun k e => hS _ (h.waitS k e), waits := h.waitsK hS hk2, plan := h.plan.keepS hS hk2, inD := h.inD, inS := h.inS, inW := h.inW }
theorem RDisk.keep (h : RDisk S w db s) (hS : ∀ k, S k → S' k) (hk : ∀ k, S k → k < w.heap.size → w'.heap[k]? = w.heap[k]?) : RDisk S' w' db s := by
  obtain ⟨r, h⟩ := h
  exact ⟨r, h.keep hS hk⟩
theorem RDisk.below (h : RDisk S w db s) (hb : Below w.heap.size w w') : RDisk S w' db s := h.keep (fun _ hs => hs) (fun k _ hk => hb.block k hk)
theorem RDisk.mono (h : RDisk S w db s) (hS : ∀ k, S k → S' k) : RDisk S' w db s := h.keep hS (fun _ _ _ => rfl)
theorem RDisk.touch (h : RDisk S w db s) (ht : Touch S' w w') (hd : ∀ k, k < w.heap.size → S k → ¬ S' k) : RDisk S w' db s := h.keep (fun _ hs => hs) (fun k hs hk => ht.block k hk (hd k hk hs))
theorem PairsIn.lt {t : TypeId} {v : Value} {cs : List (Value × Value)} (h : PairsIn S w t v cs) : PairsIn (fun k => S k ∧ k < w.heap.size) w t v cs := by
  obtain ⟨A, c, e, hc, hl, hr⟩ := h
  refine ⟨A, c, e, hc, hl, fun hp => ?_⟩
  obtain ⟨b, cur, fr, e2, hs, hh, hc⟩ := hr hp
  exact ⟨b, cur, fr, e2, ⟨hs, (Array.getElem?_eq_some_iff.1 hh).1⟩, hh, hc⟩
theorem RDisk.trim (h : RDisk S w db s) : RDisk (Trim S w) w db s := by
  obtain ⟨r, h⟩ := h
  exact ⟨r, { sdb := ⟨h.sdb, (Array.getElem?_eq_some_iff.1 h.blk).1⟩, blk := h.blk, rows := h.rows, rowS := fun k e => ⟨h.rowS k e, own_lt h.rows e⟩,
              files := fun i f hf => by obtain ⟨q, h1, h2, h3⟩ := h.files i f hf; exact ⟨q, h1, h2.trim, h3.trim⟩, dir := PairsIn.lt h.dir, sdir := PairsIn.lt h.sdir,
              wait := h.wait, waitS := fun k e => ⟨h.waitS k e, own_lt h.wait e⟩, waits := fun i l hl => by obtain ⟨v, h1, h2⟩ := h.waits i l hl; exact ⟨v, h1, PairsIn.lt h2⟩, plan := PairsIn.lt h.plan, inD := h.inD, inS := h.inS, inW := h.inW }⟩
/-- The disk's own cells alone are other than they were. -/
theorem RDiskRep.own (h : RDiskRep S w db s r) (ht : Touch (fun k => k = db) w w') (n : Int) (d : Bool)
    (hb : w'.heap[db]? = some (.cells #[.int .i64 s.room, r.lv, r.dv, r.sv, r.wv, r.pv, .int .i64 s.src, .int .i64 n, .bool d] 56 (0, 0))) : RDiskRep S w' db { s with n := n, down := d } r := by
  have hk : ∀ k o, w.heap[k]? = some o → et o ≠ some 56 → w'.heap[k]? = some o := fun k o ho he => ht.heap ho (fun e => by
    subst e
    rw [h.blk] at ho
    cases ho
    exact he rfl)
  have hk2 : ∀ k o, w.heap[k]? = some o → S k → Still o → w'.heap[k]? = some o := fun k o ho _ hs => hk k o ho (by rcases hs with e | e | e <;> rw [e] <;> simp)
  exact { sdb := h.sdb, blk := hb, rows := own_keep h.rows (fun k o ho _ he => hk k o ho (by rw [he]; simp)), rowS := h.rowS, files := h.filesK (fun _ hs => hs) hk2, dir := h.dir.keepS (fun _ hs => hs) hk2, sdir := h.sdir.keepS (fun _ hs => hs) hk2,
          wait := own_keep h.wait (fun k o ho _ he => hk k o ho (by rw [he]; simp)), waitS := h.waitS, waits := h.waitsK (fun _ hs => hs) hk2, plan := h.plan.keepS (fun _ hs => hs) hk2, inD := h.inD, inS := h.inS, inW := h.inW }
end

theorem cells9 {w : World} {b : Nat} {a0 a1 a2 a3 a4 a5 a6 a7 a8 : Value} {t : TypeId} (h : w.heap[b]? = some (.cells #[a0, a1, a2, a3, a4, a5, a6, a7, a8] t (0, 0))) :
    (w.cell? ⟨b, 0, none⟩ = some a0 ∧ w.cell? ⟨b, 1, none⟩ = some a1 ∧ w.cell? ⟨b, 2, none⟩ = some a2 ∧ w.cell? ⟨b, 3, none⟩ = some a3 ∧ w.cell? ⟨b, 4, none⟩ = some a4 ∧ w.cell? ⟨b, 5, none⟩ = some a5 ∧ w.cell? ⟨b, 6, none⟩ = some a6 ∧ w.cell? ⟨b, 7, none⟩ = some a7 ∧ w.cell? ⟨b, 8, none⟩ = some a8) ∧
    (∀ k, w.frozen? ⟨b, k, none⟩ = false) ∧ b < w.heap.size := by
  refine ⟨?_, fun k => ?_, (Array.getElem?_eq_some_iff.1 h).1⟩
  · simp [World.cell?, h]
  · simp [World.frozen?, h]
end Go.Proofs.Ythdncdhgnoggkaa
