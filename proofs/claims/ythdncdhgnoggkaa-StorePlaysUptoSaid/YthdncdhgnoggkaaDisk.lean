/-
  How a disk lies in memory, and what keeps it; the contract of the step ahead of each call.
  Conditions: the disk lies in blocks of S.
-/
import Derived.Test.YthdncdhgnoggkaaMaps
import Derived.Deep.QuietTactic
import Derived.BigQuiet
set_option linter.unusedSimpArgs false
set_option linter.unusedVariables false
namespace Go.Proofs.Ythdncdhgnoggkaa
open Go.RowKit

def fptr (b : Nat) : Value := .pointer (some ⟨b, 0, none⟩)
/-- the elements' type of a row of cells -/
def et : Obj → Option Nat
  | .cells _ t _ => some t
  | _ => none

/-! ### bytes -/
def BytesIn (S : Nat → Prop) (w : World) (v : Value) (xs : List Int) : Prop :=
  ∃ A c, v = .slice A xs.length c ∧ ((A = none → c = 0) ∧ xs.length ≤ c) ∧ xs.length ≤ 140737488355328 ∧ (0 < xs.length → ∃ b o cur fr, A = some ⟨b, o, none⟩ ∧ S b ∧ w.heap[b]? = some (.cells cur 5 fr) ∧ ∀ j, j < xs.length → cur[o + j]? = some (.int .u8 (xs.getD j 0)))
theorem BytesIn.keep {S S' : Nat → Prop} {w w' : World} {v : Value} {xs : List Int} (h : BytesIn S w v xs) (hS : ∀ k, S k → S' k) (hk : ∀ k o, w.heap[k]? = some o → S k → et o = some 5 → w'.heap[k]? = some o) : BytesIn S' w' v xs := by
  obtain ⟨A, c, e, hz, hl, hr⟩ := h
  refine ⟨A, c, e, hz, hl, fun hp => ?_⟩
  obtain ⟨b, o, cur, fr, e2, hs, hh, hc⟩ := hr hp
  exact ⟨b, o, cur, fr, e2, hS _ hs, hk _ _ hh hs rfl, hc⟩
theorem BytesIn.nil (S : Nat → Prop) (w : World) : BytesIn S w (.slice none 0 0) [] := ⟨none, 0, rfl, ⟨fun _ => rfl, Nat.le_refl _⟩, by simp, fun h => by simp at h⟩

/-! ### rows -/
theorem own_keep {w w' : World} {base : Nat} {e : TypeId} {size : Nat} {v : Value} {n : Nat} {xs : List Value} (h : w.ownsRow base e size v n xs) (hk : ∀ k o, w.heap[k]? = some o → v.ownBlock = some k → et o = some e → w'.heap[k]? = some o) : w'.ownsRow base e size v n xs := by
  obtain ⟨h1, h2⟩ := h
  refine ⟨h1, ?_⟩
  rcases h2 with h2 | ⟨g, cap, cur, rfl, hb, hh, r⟩
  · exact .inl h2
  · exact .inr ⟨g, cap, cur, rfl, hb, hk _ _ hh rfl rfl, r⟩

/-! ### the parts of a disk -/
def FilesAt (S : Nat → Prop) (w : World) (fb : List Nat) (fs : List Fil) : Prop :=
  ∀ (i : Nat) (f : Fil), fs[i]? = some f → ∃ b nv sv, fb[i]? = some b ∧ S b ∧ w.heap[b]? = some (.cells #[nv, sv] 78 (0, 0)) ∧ BytesIn S w nv f.now ∧ BytesIn S w sv f.safe
theorem FilesAt.keep {S S' : Nat → Prop} {w w' : World} {fb : List Nat} {fs : List Fil} (h : FilesAt S w fb fs) (hS : ∀ k, S k → S' k)
    (hk : ∀ k o, w.heap[k]? = some o → S k → (et o = some 5 ∨ et o = some 78) → w'.heap[k]? = some o) : FilesAt S' w' fb fs := by
  intro i f hf
  obtain ⟨b, nv, sv, h1, h2, h3, h4, h5⟩ := h i f hf
  exact ⟨b, nv, sv, h1, hS _ h2, hk _ _ h3 h2 (.inr rfl), h4.keep hS (fun k o ho hs he => hk k o ho hs (.inl he)), h5.keep hS (fun k o ho hs he => hk k o ho hs (.inl he))⟩

def fileB (fb : List Nat) (i : Nat) : Nat := fb.getD i 0
def entCells (fb : List Nat) (e : Ent) : List Value := [.string e.gone, .string e.name, e.f.elim (.pointer none) (fun i => fptr (fileB fb i))]
def PlanRep (S : Nat → Prop) (w : World) (p : Option Nat) (l : IMap) : Prop :=
  match p with
  | none => l = []
  | some b => S b ∧ PlanAt w b (fun x => .int .i64 x) l

structure Rep where
  fv : Value
  dB : Nat
  sB : Nat
  pv : Value
  plan : Option Nat
  fb : List Nat

def ofFile (fb : List Nat) (i : Nat) : Value := fptr (fileB fb i)

structure DiskRep (S : Nat → Prop) (w : World) (db : Nat) (s : Dk) (r : Rep) : Prop where
  sdb : S db
  blk : w.heap[db]? = some (.cells #[.int .i64 s.room, r.fv, .map (some r.dB), .map (some r.sB), r.pv, .map r.plan, .int .i64 s.steps, .bool s.down] 69 (0, 0))
  fbl : r.fb.length = s.files.length
  fbn : r.fb.Nodup
  rows : w.ownsRow 0 73 1 r.fv s.files.length (r.fb.map fptr)
  rowS : ∀ k, r.fv.ownBlock = some k → S k
  files : FilesAt S w r.fb s.files
  sdB : S r.dB
  dir : DirAt w r.dB (ofFile r.fb) s.dir
  ssB : S r.sB
  sdir : DirAt w r.sB (ofFile r.fb) s.sdir
  ne1 : r.dB ≠ r.sB
  pend : w.ownsRow 0 75 3 r.pv s.pend.length (s.pend.flatMap (entCells r.fb))
  pendS : ∀ k, r.pv.ownBlock = some k → S k
  plan : PlanRep S w r.plan s.plan
  ne2 : r.plan ≠ some r.dB
  ne3 : r.plan ≠ some r.sB
  inD : ∀ p ∈ s.dir, p.2 < s.files.length
  inS : ∀ p ∈ s.sdir, p.2 < s.files.length
  inP : ∀ e ∈ s.pend, ∀ i, e.f = some i → i < s.files.length

/-- The disk at block db, all of it in blocks of S. -/
def Disk (S : Nat → Prop) (w : World) (db : Nat) (s : Dk) : Prop := ∃ r, DiskRep S w db s r

theorem PlanRep.keep {S S' : Nat → Prop} {w w' : World} {p : Option Nat} {l : IMap} (h : PlanRep S w p l) (hS : ∀ k, S k → S' k) (hk : ∀ k, p = some k → w'.heap[k]? = w.heap[k]?) : PlanRep S' w' p l := by
  cases p with
  | none => exact h
  | some b => exact ⟨hS _ h.1, h.2.of_heap (hk b rfl)⟩

/-- All of S lies as it lay. -/
theorem DiskRep.keep {S S' : Nat → Prop} {w w' : World} {db : Nat} {s : Dk} {r : Rep} (h : DiskRep S w db s r) (hS : ∀ k, S k → S' k) (hk : ∀ k, S k → k < w.heap.size → w'.heap[k]? = w.heap[k]?) : DiskRep S' w' db s r := by
  have hk' : ∀ k o, w.heap[k]? = some o → S k → w'.heap[k]? = some o := fun k o ho hs => (hk k hs (Array.getElem?_eq_some_iff.1 ho).1).trans ho
  exact { sdb := hS _ h.sdb, blk := hk' _ _ h.blk h.sdb, fbl := h.fbl, fbn := h.fbn, rows := own_keep h.rows (fun k o ho hb _ => hk' k o ho (h.rowS k hb)), rowS := fun k hb => hS _ (h.rowS k hb),
          files := h.files.keep hS (fun k o ho hs _ => hk' k o ho hs), sdB := hS _ h.sdB, dir := h.dir.of_heap (hk _ h.sdB h.dir.lt), ssB := hS _ h.ssB, sdir := h.sdir.of_heap (hk _ h.ssB h.sdir.lt), ne1 := h.ne1,
          pend := own_keep h.pend (fun k o ho hb _ => hk' k o ho (h.pendS k hb)), pendS := fun k hb => hS _ (h.pendS k hb),
          plan := h.plan.keep hS (fun k e => by
            have hp := h.plan
            rw [e] at hp
            exact hk k hp.1 hp.2.lt), ne2 := h.ne2, ne3 := h.ne3, inD := h.inD, inS := h.inS, inP := h.inP }
theorem Disk.keep {S S' : Nat → Prop} {w w' : World} {db : Nat} {s : Dk} (h : Disk S w db s) (hS : ∀ k, S k → S' k) (hk : ∀ k, S k → k < w.heap.size → w'.heap[k]? = w.heap[k]?) : Disk S' w' db s := by
  obtain ⟨r, h⟩ := h
  exact ⟨r, h.keep hS hk⟩
theorem DiskRep.below {S : Nat → Prop} {w w' : World} {db : Nat} {s : Dk} {r : Rep} (h : DiskRep S w db s r) (hb : Below w.heap.size w w') : DiskRep S w' db s r := h.keep (fun _ hs => hs) (fun k _ hk => hb.block k hk)
theorem Disk.below {S : Nat → Prop} {w w' : World} {db : Nat} {s : Dk} (h : Disk S w db s) (hb : Below w.heap.size w w') : Disk S w' db s := h.keep (fun _ hs => hs) (fun k _ hk => hb.block k hk)
theorem Disk.mono {S S' : Nat → Prop} {w : World} {db : Nat} {s : Dk} (h : Disk S w db s) (hS : ∀ k, S k → S' k) : Disk S' w db s := h.keep hS (fun _ _ _ => rfl)
/-- What others do, elsewhere. -/
theorem Disk.touch {S S' : Nat → Prop} {w w' : World} {db : Nat} {s : Dk} (h : Disk S w db s) (ht : Touch S' w w') (hd : ∀ k, k < w.heap.size → S k → ¬ S' k) : Disk S w' db s := h.keep (fun _ hs => hs) (fun k hs hk => ht.block k hk (hd k hk hs))

/-- The disk's own cells alone are other than they were: steps, and whether it is down. -/
theorem DiskRep.own {S : Nat → Prop} {w w' : World} {db : Nat} {s : Dk} {r : Rep} (h : DiskRep S w db s r) (ht : Touch (fun k => k = db) w w') (n : Int) (d : Bool)
    (hb : w'.heap[db]? = some (.cells #[.int .i64 s.room, r.fv, .map (some r.dB), .map (some r.sB), r.pv, .map r.plan, .int .i64 n, .bool d] 69 (0, 0))) : DiskRep S w' db { s with steps := n, down := d } r := by
  have hk : ∀ k o, w.heap[k]? = some o → et o ≠ some 69 → w'.heap[k]? = some o := fun k o ho he => ht.heap ho (fun e => by
    subst e
    rw [h.blk] at ho
    cases ho
    exact he rfl)
  have hm : ∀ {b : Nat} {es : Array MapEntry} {c : Nat}, w.heap[b]? = some (.map es c) → w'.heap[b]? = w.heap[b]? := fun hb => (hk _ _ hb (by simp [et])).trans hb.symm
  exact { sdb := h.sdb, blk := hb, fbl := h.fbl, fbn := h.fbn, rows := own_keep h.rows (fun k o ho _ he => hk k o ho (by rw [he]; simp)), rowS := h.rowS,
          files := h.files.keep (fun _ hs => hs) (fun k o ho _ he => hk k o ho (by rcases he with he | he <;> rw [he] <;> simp)), sdB := h.sdB, dir := h.dir.of_heap (by obtain ⟨es, c, hh, _⟩ := h.dir; exact hm hh), ssB := h.ssB,
          sdir := h.sdir.of_heap (by obtain ⟨es, c, hh, _⟩ := h.sdir; exact hm hh), ne1 := h.ne1, pend := own_keep h.pend (fun k o ho _ he => hk k o ho (by rw [he]; simp)), pendS := h.pendS,
          plan := h.plan.keep (fun _ hs => hs) (fun k e => by
            have hp := h.plan
            rw [e] at hp
            obtain ⟨_, es, c, hh, _⟩ := hp
            exact hm hh), ne2 := h.ne2, ne3 := h.ne3, inD := h.inD, inS := h.inS, inP := h.inP }

/-- What the walk reads and writes of the disk's block. -/
theorem cells8 {w : World} {b : Nat} {a0 a1 a2 a3 a4 a5 a6 a7 : Value} {t : TypeId} (h : w.heap[b]? = some (.cells #[a0, a1, a2, a3, a4, a5, a6, a7] t (0, 0))) :
    (w.cell? ⟨b, 0, none⟩ = some a0 ∧ w.cell? ⟨b, 1, none⟩ = some a1 ∧ w.cell? ⟨b, 2, none⟩ = some a2 ∧ w.cell? ⟨b, 3, none⟩ = some a3 ∧ w.cell? ⟨b, 4, none⟩ = some a4 ∧ w.cell? ⟨b, 5, none⟩ = some a5 ∧ w.cell? ⟨b, 6, none⟩ = some a6 ∧ w.cell? ⟨b, 7, none⟩ = some a7) ∧
    (∀ k, w.frozen? ⟨b, k, none⟩ = false) ∧ b < w.heap.size := by
  refine ⟨?_, fun k => ?_, (Array.getElem?_eq_some_iff.1 h).1⟩
  · simp [World.cell?, h]
  · simp [World.frozen?, h]
theorem heap_setCell8 {w : World} {b : Nat} {c : Array Value} {t : TypeId} {fr : Nat × Nat} (h : w.heap[b]? = some (.cells c t fr)) (k : Nat) (v : Value) :
    (w.setCell ⟨b, k, none⟩ v).heap[b]? = some (.cells (c.setIfInBounds k v) t fr) := by
  simp [World.setCell, Array.getElem?_modify, h]

theorem PlanRep.look {S : Nat → Prop} {w : World} {p : Option Nat} {l : IMap} (h : PlanRep S w p l) (n : Int) :
    (Instr.lookup 67 (.map p) (.int .i64 n) false).run Try.prog w = .ok (.int .i64 (kindAt l n)) w := by
  cases p with
  | none =>
    have e : l = [] := h
    subst e
    have hz : (zeroValue 3).run Try.prog w = .ok (.int .i64 0) w := by kernel_rfl
    simp [Instr.lookup, run_underlying Try.underlying67, MapKept.run_checkKey Try.underlying3 (k := .int .i64 n) rfl, MapKept.run_findKey Try.underlying3 (l := []) (k := .int .i64 n) rfl, hz, Result.andThen, kindAt, findI]
  | some b =>
    rw [h.2.lookup Try.underlying67 Try.underlying3 (fun w => by kernel_rfl) n]
    unfold kindAt
    cases findI l n <;> rfl

end Go.Proofs.Ythdncdhgnoggkaa
