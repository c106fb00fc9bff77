/-
  The contracts of the reference's New, Create, Fsync, Rename, Remove, Dirsync.
  Conditions: lists are no longer than Go allows.
-/
import Derived.Test.YthdncdhgnoggkaaRChange
import Derived.StillTailTactics
set_option linter.unusedSimpArgs false
set_option linter.unusedVariables false
namespace Go.Proofs.Ythdncdhgnoggkaa
open Go.RowKit

/-- How great the reference's disk is. -/
structure RFit (N M : Nat) (s : RDk) : Prop where
  nd : s.dir.length ≤ N
  ns : s.sdir.length + 2 * s.wait.length ≤ N
  nl : ∀ l ∈ s.wait, l.length ≤ 2
  nf : s.files.length ≤ N
  nb : ∀ f ∈ s.files, f.now.length ≤ M ∧ f.safe.length ≤ M
  room : 0 ≤ s.room ∧ s.room ≤ 1073741824

theorem RFit.nw {N M : Nat} {s : RDk} (h : RFit N M s) : s.wait.length ≤ N := by have := h.ns; omega
theorem rstep_rest (ok : Bool) (s : RDk) : (rstep ok s).2.files = s.files ∧ (rstep ok s).2.dir = s.dir ∧ (rstep ok s).2.sdir = s.sdir ∧ (rstep ok s).2.wait = s.wait ∧ (rstep ok s).2.room = s.room ∧ (rstep ok s).2.plan = s.plan ∧ (rstep ok s).2.src = s.src := by
  unfold rstep
  dsimp only
  split
  · exact ⟨rfl, rfl, rfl, rfl, rfl, rfl, rfl⟩
  · split <;> exact ⟨rfl, rfl, rfl, rfl, rfl, rfl, rfl⟩
theorem rfit_step {N M : Nat} {s : RDk} (h : RFit N M s) (ok : Bool) : RFit N M (rstep ok s).2 := by
  obtain ⟨e1, e2, e3, e4, e5, _⟩ := rstep_rest ok s
  exact ⟨by rw [e2]; exact h.nd, by rw [e3, e4]; exact h.ns, by rw [e4]; exact h.nl, by rw [e1]; exact h.nf, by rw [e1]; exact h.nb, by rw [e5]; exact h.room⟩
theorem rthere_cases (ok : Bool) (n : ByteArray) (s : RDk) : (∃ e, e ≠ 0 ∧ (rstep ok s).1 = e ∧ rthere ok n s = (e, none, (rstep ok s).2)) ∨ ((rstep ok s).1 = 0 ∧ rfind (rstep ok s).2.dir n = none ∧ rthere ok n s = (63, none, (rstep ok s).2)) ∨
    ((rstep ok s).1 = 0 ∧ ∃ f, rfind (rstep ok s).2.dir n = some f ∧ rthere ok n s = (0, some f, (rstep ok s).2)) := by
  unfold rthere
  dsimp only
  by_cases h : (rstep ok s).1 = 0
  · rw [if_pos h]
    cases hf : rfind (rstep ok s).2.dir n with
    | none => exact .inr (.inl ⟨h, rfl, rfl⟩)
    | some f => exact .inr (.inr ⟨h, f, rfl, rfl⟩)
  · rw [if_neg h]
    exact .inl ⟨_, h, rfl, rfl⟩
/-- What an operation leaves. -/
def RAfter (S : Nat → Prop) (w : World) (db : Nat) (s : RDk) (w' : World) : Prop := RDisk (Grow S w) w' db s ∧ Touch S w w'
theorem rafter_step {S : Nat → Prop} {w w' : World} {db : Nat} {s : RDk} {r : RRep} (h : RDiskRep S w' db s r) (hS : S db) (ht : Touch (fun k => k = db) w w') : RAfter S w db s w' :=
  ⟨⟨r, h.keep (fun _ hs => .inl hs) (fun _ _ _ => rfl)⟩, ht.mono (fun k _ e => by subst e; exact hS)⟩
theorem RAfter.drewN {S : Nat → Prop} {w w' : World} {db : Nat} {s : RDk} (h : RAfter S w db s w') (n : Nat) : RAfter S w db s (w'.drewN n) := ⟨h.1.keep (fun _ hs => hs) (fun _ _ _ => rfl), h.2.drewN n⟩
theorem rchange_call {S : Nat → Prop} {w W : World} {db : Nat} {s : RDk} {v : Value} {l : RDir} (h : RAfter S w db s W) (hv : EntsIn (Grow S w) W v l) (hd : s.dir.length + l.length ≤ 1099511627776) (hw : s.wait.length ≤ 1099511627776) (hin : ∀ p ∈ l, p.2 < (s.files.length : Int)) :
    Calls Try.prog 53 #[.pointer (some ⟨db, 0, none⟩), v] W fun e w' => e = .returned (.tuple #[]) ∧ RAfter S w db (rchange l s) w' := by
  obtain ⟨⟨r, h1⟩, ht⟩ := h
  refine (rchange_ok (Grow S w) db s r v l W h1 hv hd hw hin).mono ?_
  rintro e w' ⟨rfl, h2, ht2⟩
  exact ⟨rfl, h2.mono (fun k hk => by rcases hk with hk | hk; exact hk; exact .inr (Nat.le_trans ht.size hk)), ht.trans ht2⟩
/-- A literal of entries. -/
theorem ents_one {G : Nat → Prop} (w : World) (n : ByteArray) (f : Int) (hG : ∀ k, w.heap.size ≤ k → G k) (fr : Nat × Nat) : EntsIn G (w.alloc (.cells #[.string n, .int .i64 f] 91 fr)) (.slice (some ⟨w.heap.size, 0, none⟩) 1 1) [(n, f)] :=
  ⟨_, 1, rfl, Nat.le_refl _, by simp, fun _ => ⟨_, _, _, rfl, hG _ (Nat.le_refl _), World.alloc_heap_new w _, fun j p hj => by
    cases j with
    | zero => simp at hj; subst hj; exact ⟨rfl, rfl⟩
    | succ j => simp at hj⟩⟩
theorem RAfter.alloc {S : Nat → Prop} {w w' : World} {db : Nat} {s : RDk} (h : RAfter S w db s w') (o : Obj) : RAfter S w db s (w'.alloc o) := ⟨h.1.below ((Below.refl _ _).alloc (Nat.le_refl _) o), h.2.alloc o⟩

def AtI (l : RDir) (n : ByteArray) (f : Int) (w : World) (e : Ending) (w' : World) : Prop := ∃ i : Nat, e = .returned (.int .i64 i) ∧ l[i]? = some (n, f) ∧ w' = w
theorem at_none (S : Nat → Prop) (v : Value) (l : RDir) (n : ByteArray) (w : World) (h : EntsIn S w v l) (hf : rfind l n = none) :
    Calls Try.prog 52 #[v, .string n] w fun e w' => e = .returned (.int .i64 (-1)) ∧ w' = w := by
  refine (at_ok S v l n w h).mono ?_
  rintro e w' ⟨hw, ⟨he, _⟩ | ⟨i, f, _, _, hf'⟩⟩
  · exact ⟨he, hw⟩
  · rw [hf] at hf'; cases hf'
theorem at_some (S : Nat → Prop) (v : Value) (l : RDir) (n : ByteArray) (f : Int) (w : World) (h : EntsIn S w v l) (hf : rfind l n = some f) :
    Calls Try.prog 52 #[v, .string n] w (AtI l n f w) := by
  refine (at_ok S v l n w h).mono ?_
  rintro e w' ⟨hw, ⟨_, hf'⟩ | ⟨i, f', he, hi, hf'⟩⟩
  · rw [hf] at hf'; cases hf'
  · rw [hf] at hf'; cases hf'; exact ⟨i, he, hi, hw⟩
theorem ents_two {G : Nat → Prop} (w : World) (n : ByteArray) (f : Int) (o : ByteArray) (g : Int) (hG : ∀ k, w.heap.size ≤ k → G k) (fr : Nat × Nat) : EntsIn G (w.alloc (.cells #[.string n, .int .i64 f, .string o, .int .i64 g] 91 fr)) (.slice (some ⟨w.heap.size, 0, none⟩) 2 2) [(n, f), (o, g)] :=
  ⟨_, 2, rfl, Nat.le_refl _, by simp, fun _ => ⟨_, _, _, rfl, hG _ (Nat.le_refl _), World.alloc_heap_new w _, fun j p hj => by
    match j, hj with
    | 0, hj => simp at hj; subst hj; exact ⟨rfl, rfl⟩
    | 1, hj => simp at hj; subst hj; exact ⟨rfl, rfl⟩
    | j + 2, hj => simp at hj⟩⟩
theorem flat2_set0 (l : List (Value × Value)) : ∀ (m : Nat) (q : Value × Value) (u : Value), l[m]? = some q → flat2 (l.set m (u, q.2)) = (flat2 l).set (m * 2) u := by
  induction l with
  | nil => intro m q u h; simp at h
  | cons x l ih =>
    intro m q u h
    cases m with
    | zero => simp at h; subst h; rfl
    | succ m =>
      have := ih m q u (by simpa using h)
      rw [List.set_cons_succ, show (m + 1) * 2 = m * 2 + 1 + 1 by omega]
      show x.1 :: x.2 :: flat2 (l.set m (u, q.2)) = (x.1 :: x.2 :: flat2 l).set (m * 2 + 1 + 1) u
      rw [this]
      rfl
theorem flat2_set1 (l : List (Value × Value)) : ∀ (m : Nat) (q : Value × Value) (u : Value), l[m]? = some q → flat2 (l.set m (q.1, u)) = (flat2 l).set (m * 2 + 1) u := by
  induction l with
  | nil => intro m q u h; simp at h
  | cons x l ih =>
    intro m q u h
    cases m with
    | zero => simp at h; subst h; rfl
    | succ m =>
      have := ih m q u (by simpa using h)
      rw [List.set_cons_succ, show (m + 1) * 2 + 1 = m * 2 + 1 + 1 + 1 by omega]
      show x.1 :: x.2 :: flat2 (l.set m (q.1, u)) = (x.1 :: x.2 :: flat2 l).set (m * 2 + 1 + 1 + 1) u
      rw [this]
      rfl
section
variable {S S' : Nat → Prop} {w w' : World} {db : Nat} {s : RDk} {r : RRep}
theorem RDiskRep.fvl (h : RDiskRep S w db s r) : r.fv.length = s.files.length := by
  have := h.rows.1
  rw [flat2_length] at this
  omega
/-- What is read of a file. -/
theorem RDiskRep.fileAt (h : RDiskRep S w db s r) {m : Nat} {x : Fil} (hm : s.files[m]? = some x) :
    ∃ g cap q, r.lv = .slice (some ⟨g, 0, none⟩) s.files.length cap ∧ S g ∧ g ≠ db ∧ g < w.heap.size ∧ r.fv[m]? = some q ∧ w.cell? ⟨g, m * 2, none⟩ = some q.1 ∧ w.cell? ⟨g, m * 2 + 1, none⟩ = some q.2 ∧ (∀ k, w.frozen? ⟨g, k, none⟩ = false) ∧ BytesIn S w q.1 x.now ∧ BytesIn S w q.2 x.safe := by
  have hl := (List.getElem?_eq_some_iff.1 hm).1
  obtain ⟨q, hq, b1, b2⟩ := h.files m x hm
  obtain ⟨a1, a2⟩ := flat2_at r.fv m q hq
  have hrows := h.rows
  rcases hrows.2 with ⟨e, h0⟩ | ⟨g, cap, cur, e, hb, hh, _⟩
  · omega
  · rw [e] at hrows
    have k0 := hrows.cellAt (m * 2) (by omega)
    have k1 := hrows.cellAt (m * 2 + 1) (by omega)
    have hg : r.lv.ownBlock = some g := by rw [e]; rfl
    refine ⟨g, cap, q, e, h.rowS g hg, fun e2 => ?_, (Array.getElem?_eq_some_iff.1 hh).1, hq, k0.trans a1, k1.trans a2, fun k => by simp [World.frozen?, hh], b1, b2⟩
    subst e2
    rw [h.blk] at hh
    cases hh
/-- A file is another. -/
theorem RDiskRep.fileTurn (h : RDiskRep S w db s r) (hS : ∀ k, S k → S' k) {m : Nat} {x x' : Fil} {q' : Value × Value} (hm : s.files[m]? = some x) (hk : ∀ k o, w.heap[k]? = some o → r.lv.ownBlock ≠ some k → w'.heap[k]? = some o)
    (rows : w'.ownsRow 0 93 2 r.lv s.files.length (flat2 (r.fv.set m q'))) (b1 : BytesIn S' w' q'.1 x'.now) (b2 : BytesIn S' w' q'.2 x'.safe) : RDiskRep S' w' db { s with files := s.files.set m x' } { r with fv := r.fv.set m q' } := by
  have hk1 : ∀ k o, w.heap[k]? = some o → et o ≠ some 93 → w'.heap[k]? = some o := fun k o ho he => hk k o ho (own_ne h.rows ho he)
  have hk2 : ∀ k o, w.heap[k]? = some o → S k → Still o → w'.heap[k]? = some o := fun k o ho _ hs => hk1 k o ho (by rcases hs with e | e | e <;> rw [e] <;> simp)
  have hl : (s.files.set m x').length = s.files.length := List.length_set ..
  have hlm := (List.getElem?_eq_some_iff.1 hm).1
  exact { sdb := hS _ h.sdb, blk := hk1 _ _ h.blk (by simp [et]), rows := by rw [hl]; exact rows, rowS := fun k e => hS _ (h.rowS k e),
          files := fun i f hf => by
            by_cases hi : i = m
            · subst hi
              rw [List.getElem?_set_self hlm] at hf
              cases hf
              exact ⟨q', List.getElem?_set_self (by rw [h.fvl]; exact hlm), b1, b2⟩
            · rw [List.getElem?_set_ne (Ne.symm hi)] at hf
              obtain ⟨q, h1, h2, h3⟩ := h.filesK hS hk2 i f hf
              exact ⟨q, by rw [List.getElem?_set_ne (Ne.symm hi)]; exact h1, h2, h3⟩,
          dir := h.dir.keepS hS hk2, sdir := h.sdir.keepS hS hk2, wait := own_keep h.wait (fun k o ho _ he => hk1 k o ho (by rw [he]; simp)), waitS := fun k e => hS _ (h.waitS k e), waits := h.waitsK hS hk2, plan := h.plan.keepS hS hk2,
          inD := by rw [hl]; exact h.inD, inS := by rw [hl]; exact h.inS, inW := by rw [hl]; exact h.inW }
end
theorem file_safe {G : Nat → Prop} {W : World} {db m g cap : Nat} {s : RDk} {r : RRep} {x : Fil} {v0 v1 u : Value} {ys : List Int} (h : RDiskRep G W db s r) (hx : s.files[m]? = some x) (hlv : r.lv = .slice (some ⟨g, 0, none⟩) s.files.length cap) (hq : r.fv[m]? = some (v0, v1)) (h0 : BytesIn G W v0 x.now) (hu : BytesIn G W u ys) :
    RDisk G (W.setCell ⟨g, m * 2 + 1, none⟩ u) db { s with files := s.files.set m ⟨x.now, ys⟩ } := by
  have hrow := h.rows
  rw [hlv] at hrow
  obtain ⟨hst, hgr⟩ := hrow.stored (m * 2 + 1) u
  rw [← flat2_set1 _ _ _ _ hq, ← hlv] at hst
  have hk : ∀ k o, W.heap[k]? = some o → et o ≠ some 93 → (W.setCell ⟨g, m * 2 + 1, none⟩ u).heap[k]? = some o := fun k o ho he => grown_heap hgr ho (by have := own_ne h.rows ho he; rw [hlv] at this; exact this)
  exact ⟨_, h.fileTurn (fun _ hs => hs) hx (fun k o ho hne => grown_heap hgr ho (by rw [hlv] at hne; exact hne)) hst (h0.keep (fun _ hs => hs) (fun k o ho _ he => hk k o ho (by rw [he]; simp))) (hu.keep (fun _ hs => hs) (fun k o ho _ he => hk k o ho (by rw [he]; simp)))⟩
theorem file_now {G : Nat → Prop} {W : World} {db m g cap : Nat} {s : RDk} {r : RRep} {x : Fil} {v0 v1 u : Value} {ys : List Int} (h : RDiskRep G W db s r) (hx : s.files[m]? = some x) (hlv : r.lv = .slice (some ⟨g, 0, none⟩) s.files.length cap) (hq : r.fv[m]? = some (v0, v1)) (h1 : BytesIn G W v1 x.safe) (hu : BytesIn G W u ys) :
    RDisk G (W.setCell ⟨g, m * 2, none⟩ u) db { s with files := s.files.set m ⟨ys, x.safe⟩ } := by
  have hrow := h.rows
  rw [hlv] at hrow
  obtain ⟨hst, hgr⟩ := hrow.stored (m * 2) u
  rw [← flat2_set0 _ _ _ _ hq, ← hlv] at hst
  have hk : ∀ k o, W.heap[k]? = some o → et o ≠ some 93 → (W.setCell ⟨g, m * 2, none⟩ u).heap[k]? = some o := fun k o ho he => grown_heap hgr ho (by have := own_ne h.rows ho he; rw [hlv] at this; exact this)
  exact ⟨_, h.fileTurn (fun _ hs => hs) hx (fun k o ho hne => grown_heap hgr ho (by rw [hlv] at hne; exact hne)) hst (hu.keep (fun _ hs => hs) (fun k o ho _ he => hk k o ho (by rw [he]; simp))) (h1.keep (fun _ hs => hs) (fun k o ho _ he => hk k o ho (by rw [he]; simp)))⟩
theorem rfind_in {l : RDir} {n : ByteArray} {f : Int} (h : rfind l n = some f) : (n, f) ∈ l := by
  induction l with
  | nil => cases h
  | cons p l ih =>
    unfold rfind at h
    split at h
    · rename_i hp
      cases h
      rw [← hp]
      simp
    · exact List.mem_cons_of_mem _ (ih h)
/-- The number of a file that is there. -/
theorem rfile_of {S : Nat → Prop} {w : World} {db : Nat} {s : RDk} {r : RRep} (h : RDiskRep S w db s r) (ok : Bool) {n : ByteArray} {f : Int} (hf : rfind (rstep ok s).2.dir n = some f) : ∃ m : Nat, f = m ∧ m < s.files.length := by
  obtain ⟨_, e2, _⟩ := rstep_rest ok s
  rw [e2] at hf
  have := h.inD _ (rfind_in hf)
  dsimp only at this
  exact ⟨f.toNat, by omega, by omega⟩

set_option maxRecDepth 100000 in
set_option maxHeartbeats 4000000 in
theorem rremove_ok (S : Nat → Prop) (db : Nat) (s : RDk) (n : ByteArray) (w : World) (N M : Nat) (h : RDisk S w db s) (hn : n.size ≤ 9223372036854775807) (hfit : RFit N M s) (hN : N ≤ 549755813888) :
    Calls Try.prog 44 #[fptr db, .string n] w (fun e w' => e = .returned (.int .i64 (rremove n s).1) ∧ RAfter S w db (rremove n s).2 w') := by
  obtain ⟨r, h⟩ := h
  unfold fptr
  have HS := Lib.hid (rstep_ok S db n n s r w h hn hn)
  have hsd := Lib.hid h.sdb
  have hf1 := rfit_step hfit (okName n)
  unfold fptr at HS
  rw [Bool.and_self] at HS
  have HFO := Lib.hid (fun f hf => rfile_of h (okName n) (n := n) (f := f) hf)
  clear h
  rcases rthere_cases (okName n) n s with ⟨e0, he0, h1, h2⟩ | ⟨h1, h2, h3⟩ | ⟨h1, f, h2, h3⟩
  · have HE : rremove n s = (e0, (rstep (okName n) s).2) := by unfold rremove; rw [h2]
    rw [HE]
    rw [h1] at HS
    have hb : (e0 != 0) = true := by simpa using he0
    clear HE h1 h2 he0
    go_enter Try.func44, Try.ntmps44
    go_wp2_with (go_at_call 51; refine HS.out.mono ?_; rintro e w1 ⟨rfl, hd1, ht1⟩)
    go_ret
    exact ⟨rfl, rafter_step hd1 hsd.out ht1⟩
  · have HE : rremove n s = (63, (rstep (okName n) s).2) := by unfold rremove; rw [h3]
    rw [HE]
    rw [h1] at HS
    have HAT : Hid (∀ w1, RDiskRep S w1 db (rstep (okName n) s).2 r → Calls Try.prog 52 #[r.dv, .string n] w1 fun e w' => e = .returned (.int .i64 (-1)) ∧ w' = w1) := fun w1 hd => at_none S r.dv _ n w1 hd.dir h2
    clear HE h1 h2 h3
    generalize (rstep (okName n) s).2 = s1 at *
    go_enter Try.func44, Try.ntmps44
    go_wp2_with (first | (go_at_call 51; refine HS.out.mono ?_; rintro e w1 ⟨rfl, hd1, ht1⟩; obtain ⟨⟨c0, c1, c2, c3, c4, c5, c6, c7, c8⟩, cf, clt⟩ := cells9 hd1.blk; obtain ⟨Ad, cd, hdv, _, _⟩ := hd1.dir.sl; have hat := HAT.out w1 hd1; rw [hdv] at c2 hat; have HDV := Lib.hid hdv; have HD1 := Lib.hid hd1; clear hd1 hdv) | (go_at_call 52; refine hat.mono ?_; rintro e w2 ⟨rfl, rfl⟩))
    go_ret
    exact ⟨rfl, rafter_step HD1.out hsd.out ht1⟩
  · obtain ⟨m, rfl, hml⟩ := HFO.out f h2
    have hfl : (rstep (okName n) s).2.files.length = s.files.length := by rw [(rstep_rest (okName n) s).1]
    rw [← hfl] at hml
    have HE : rremove n s = (0, rchange [(n, -1)] (rstep (okName n) s).2) := by unfold rremove; rw [h3]
    rw [HE]
    rw [h1] at HS
    have HAT : Hid (∀ w1, RDiskRep S w1 db (rstep (okName n) s).2 r → Calls Try.prog 52 #[r.dv, .string n] w1 (AtI (rstep (okName n) s).2.dir n m w1)) := fun w1 hd => at_some S r.dv _ n m w1 hd.dir h2
    clear HE h1 h2 h3 hfl HFO
    generalize (rstep (okName n) s).2 = s1 at *
    try dsimp only
    have hnd := hf1.nd
    have hnw := hf1.nw
    go_enter Try.func44, Try.ntmps44
    go_wp2_with (first | (go_at_call 51; refine HS.out.mono ?_; rintro e w1 ⟨rfl, hd1, ht1⟩; obtain ⟨⟨c0, c1, c2, c3, c4, c5, c6, c7, c8⟩, cf, clt⟩ := cells9 hd1.blk; obtain ⟨Ad, cd, hdv, _, _⟩ := hd1.dir.sl; have hat := HAT.out w1 hd1; rw [hdv] at c2 hat; have HDV := Lib.hid hdv; have HD1 := Lib.hid hd1; clear hd1 hdv) | (go_at_call 52; refine hat.mono ?_; rintro e w2 ⟨i, rfl, hi, rfl⟩; have HI := Lib.hid hi; obtain ⟨bd, hbd, _, q0, q1⟩ := EntsIn.cells (by have := HD1.out.dir; rw [HDV.out] at this; exact this) hi; have hil := (List.getElem?_eq_some_iff.1 hi).1; subst hbd; clear hi; have ha := (rafter_step HD1.out hsd.out ht1).alloc (.cells #[.string n, .int .i64 (-1)] 91); have hch := rchange_call (l := [(n, -1)]) ha (ents_one w2 n (-1) (fun k hk => .inr (Nat.le_trans ht1.size hk)) (0, 0)) (by simp; omega) (by omega) (fun p hp => by rw [List.mem_singleton.1 hp]; show (-1 : Int) < _; omega)) | (go_at_call 53; refine hch.mono ?_; rintro e w3 ⟨rfl, h3⟩))
    go_ret
    exact ⟨rfl, h3⟩

set_option maxRecDepth 100000 in
set_option maxHeartbeats 4000000 in
theorem rrename_ok (S : Nat → Prop) (db : Nat) (s : RDk) (n o : ByteArray) (w : World) (N M : Nat) (h : RDisk S w db s) (hn : n.size ≤ 9223372036854775807) (ho : o.size ≤ 9223372036854775807) (hfit : RFit N M s) (hN : N ≤ 549755813888) :
    Calls Try.prog 43 #[fptr db, .string n, .string o] w (fun e w' => e = .returned (.int .i64 (rrename n o s).1) ∧ RAfter S w db (rrename n o s).2 w') := by
  obtain ⟨r, h⟩ := h
  unfold fptr
  have HS := Lib.hid (rstep_ok S db n o s r w h hn ho)
  have hsd := Lib.hid h.sdb
  have hf1 := rfit_step hfit (okName n && okName o)
  unfold fptr at HS
  have HFO := Lib.hid (fun f hf => rfile_of h (okName n && okName o) (n := n) (f := f) hf)
  clear h
  rcases rthere_cases (okName n && okName o) n s with ⟨e0, he0, h1, h2⟩ | ⟨h1, h2, h3⟩ | ⟨h1, f, h2, h3⟩
  · have HE : rrename n o s = (e0, (rstep (okName n && okName o) s).2) := by unfold rrename; rw [h2]
    rw [HE]
    rw [h1] at HS
    have hb : (e0 != 0) = true := by simpa using he0
    clear HE h1 h2 he0
    go_enter Try.func43, Try.ntmps43
    go_wp2_with (go_at_call 51; refine HS.out.mono ?_; rintro e w1 ⟨rfl, hd1, ht1⟩)
    go_ret
    exact ⟨rfl, rafter_step hd1 hsd.out ht1⟩
  · have HE : rrename n o s = (63, (rstep (okName n && okName o) s).2) := by unfold rrename; rw [h3]
    rw [HE]
    rw [h1] at HS
    have HAT : Hid (∀ w1, RDiskRep S w1 db (rstep (okName n && okName o) s).2 r → Calls Try.prog 52 #[r.dv, .string n] w1 fun e w' => e = .returned (.int .i64 (-1)) ∧ w' = w1) := fun w1 hd => at_none S r.dv _ n w1 hd.dir h2
    clear HE h1 h2 h3
    generalize (rstep (okName n && okName o) s).2 = s1 at *
    go_enter Try.func43, Try.ntmps43
    go_wp2_with (first | (go_at_call 51; refine HS.out.mono ?_; rintro e w1 ⟨rfl, hd1, ht1⟩; obtain ⟨⟨c0, c1, c2, c3, c4, c5, c6, c7, c8⟩, cf, clt⟩ := cells9 hd1.blk; obtain ⟨Ad, cd, hdv, _, _⟩ := hd1.dir.sl; have hat := HAT.out w1 hd1; rw [hdv] at c2 hat; have HDV := Lib.hid hdv; have HD1 := Lib.hid hd1; clear hd1 hdv) | (go_at_call 52; refine hat.mono ?_; rintro e w2 ⟨rfl, rfl⟩))
    go_ret
    exact ⟨rfl, rafter_step HD1.out hsd.out ht1⟩
  · obtain ⟨m, rfl, hml⟩ := HFO.out f h2
    have hfl : (rstep (okName n && okName o) s).2.files.length = s.files.length := by rw [(rstep_rest (okName n && okName o) s).1]
    rw [← hfl] at hml
    have HE : rrename n o s = (0, rchange [(n, -1), (o, (m : Int))] (rstep (okName n && okName o) s).2) := by unfold rrename; rw [h3]
    rw [HE]
    rw [h1] at HS
    have HAT : Hid (∀ w1, RDiskRep S w1 db (rstep (okName n && okName o) s).2 r → Calls Try.prog 52 #[r.dv, .string n] w1 (AtI (rstep (okName n && okName o) s).2.dir n m w1)) := fun w1 hd => at_some S r.dv _ n m w1 hd.dir h2
    clear HE h1 h2 h3 hfl HFO
    generalize (rstep (okName n && okName o) s).2 = s1 at *
    try dsimp only
    have hnd := hf1.nd
    have hnw := hf1.nw
    go_enter Try.func43, Try.ntmps43
    go_wp2_with (first | (go_at_call 51; refine HS.out.mono ?_; rintro e w1 ⟨rfl, hd1, ht1⟩; obtain ⟨⟨c0, c1, c2, c3, c4, c5, c6, c7, c8⟩, cf, clt⟩ := cells9 hd1.blk; obtain ⟨Ad, cd, hdv, _, _⟩ := hd1.dir.sl; have hat := HAT.out w1 hd1; rw [hdv] at c2 hat; have HDV := Lib.hid hdv; have HD1 := Lib.hid hd1; clear hd1 hdv) | (go_at_call 52; refine hat.mono ?_; rintro e w2 ⟨i, rfl, hi, rfl⟩; have HI := Lib.hid hi; obtain ⟨bd, hbd, _, q0, q1⟩ := EntsIn.cells (by have := HD1.out.dir; rw [HDV.out] at this; exact this) hi; have hil := (List.getElem?_eq_some_iff.1 hi).1; subst hbd; clear hi; have hin := HD1.out.inD _ (List.mem_of_getElem? HI.out); have ha := (rafter_step HD1.out hsd.out ht1).alloc (.cells #[.string n, .int .i64 (-1), .string o, .int .i64 m] 91); have hch := rchange_call (l := [(n, -1), (o, (m : Int))]) ha (ents_two w2 n (-1) o m (fun k hk => .inr (Nat.le_trans ht1.size hk)) (0, 0)) (by simp; omega) (by omega) (fun p hp => by rcases List.mem_cons.1 hp with e | hp; rw [e]; show (-1 : Int) < _; omega; rw [List.mem_singleton.1 hp]; exact hin.2); clear hin) | (go_at_call 53; refine hch.mono ?_; rintro e w3 ⟨rfl, h3⟩))
    go_ret
    exact ⟨rfl, h3⟩

set_option maxRecDepth 100000 in
set_option maxHeartbeats 4000000 in
theorem rfsync_ok (S : Nat → Prop) (db : Nat) (s : RDk) (n : ByteArray) (w : World) (N M : Nat) (h : RDisk S w db s) (hn : n.size ≤ 9223372036854775807) (hfit : RFit N M s) (hN : N ≤ 549755813888) :
    Calls Try.prog 42 #[fptr db, .string n] w (fun e w' => e = .returned (.int .i64 (rfsync n s).1) ∧ RAfter S w db (rfsync n s).2 w') := by
  obtain ⟨r, h⟩ := h
  unfold fptr
  have HS := Lib.hid (rstep_ok S db n n s r w h hn hn)
  have hsd := Lib.hid h.sdb
  have hf1 := rfit_step hfit (okName n)
  unfold fptr at HS
  rw [Bool.and_self] at HS
  have HFO := Lib.hid (fun f hf => rfile_of h (okName n) (n := n) (f := f) hf)
  clear h
  rcases rthere_cases (okName n) n s with ⟨e0, he0, h1, h2⟩ | ⟨h1, h2, h3⟩ | ⟨h1, f, h2, h3⟩
  · have HE : rfsync n s = (e0, (rstep (okName n) s).2) := by unfold rfsync; rw [h2]
    rw [HE]
    rw [h1] at HS
    have hb : (e0 != 0) = true := by simpa using he0
    clear HE h1 h2 he0
    go_enter Try.func42, Try.ntmps42
    go_wp2_with (go_at_call 51; refine HS.out.mono ?_; rintro e w1 ⟨rfl, hd1, ht1⟩)
    go_ret
    exact ⟨rfl, rafter_step hd1 hsd.out ht1⟩
  · have HE : rfsync n s = (63, (rstep (okName n) s).2) := by unfold rfsync; rw [h3]
    rw [HE]
    rw [h1] at HS
    have HAT : Hid (∀ w1, RDiskRep S w1 db (rstep (okName n) s).2 r → Calls Try.prog 52 #[r.dv, .string n] w1 fun e w' => e = .returned (.int .i64 (-1)) ∧ w' = w1) := fun w1 hd => at_none S r.dv _ n w1 hd.dir h2
    clear HE h1 h2 h3
    generalize (rstep (okName n) s).2 = s1 at *
    go_enter Try.func42, Try.ntmps42
    go_wp2_with (first | (go_at_call 51; refine HS.out.mono ?_; rintro e w1 ⟨rfl, hd1, ht1⟩; obtain ⟨⟨c0, c1, c2, c3, c4, c5, c6, c7, c8⟩, cf, clt⟩ := cells9 hd1.blk; obtain ⟨Ad, cd, hdv, _, _⟩ := hd1.dir.sl; have hat := HAT.out w1 hd1; rw [hdv] at c2 hat; have HDV := Lib.hid hdv; have HD1 := Lib.hid hd1; clear hd1 hdv) | (go_at_call 52; refine hat.mono ?_; rintro e w2 ⟨rfl, rfl⟩))
    go_ret
    exact ⟨rfl, rafter_step HD1.out hsd.out ht1⟩
  · obtain ⟨m, rfl, hml⟩ := HFO.out f h2
    have hfl : (rstep (okName n) s).2.files.length = s.files.length := by rw [(rstep_rest (okName n) s).1]
    rw [← hfl] at hml
    have HE : rfsync n s = (0, { (rstep (okName n) s).2 with files := (rstep (okName n) s).2.files.modify (m : Int).toNat (fun f => { f with safe := f.now }) }) := by unfold rfsync; rw [h3]
    rw [HE]
    rw [h1] at HS
    have HAT : Hid (∀ w1, RDiskRep S w1 db (rstep (okName n) s).2 r → Calls Try.prog 52 #[r.dv, .string n] w1 (AtI (rstep (okName n) s).2.dir n m w1)) := fun w1 hd => at_some S r.dv _ n m w1 hd.dir h2
    clear HE h1 h2 h3 hfl HFO
    generalize (rstep (okName n) s).2 = s1 at *
    try dsimp only
    go_enter Try.func42, Try.ntmps42
    go_wp2_with (first | (go_at_call 51; refine HS.out.mono ?_; rintro e w1 ⟨rfl, hd1, ht1⟩; obtain ⟨⟨c0, c1, c2, c3, c4, c5, c6, c7, c8⟩, cf, clt⟩ := cells9 hd1.blk; obtain ⟨Ad, cd, hdv, _, _⟩ := hd1.dir.sl; have hat := HAT.out w1 hd1; rw [hdv] at c2 hat; have HDV := Lib.hid hdv; have HD1 := Lib.hid hd1; clear hd1 hdv) | (go_at_call 52; refine hat.mono ?_; rintro e w2 ⟨i, rfl, hi, rfl⟩; have HI := Lib.hid hi; obtain ⟨bd, hbd, _, q0, q1⟩ := EntsIn.cells (by have := HD1.out.dir; rw [HDV.out] at this; exact this) hi; have hil := (List.getElem?_eq_some_iff.1 hi).1; subst hbd; clear hi; clear hat) )
    obtain ⟨x, hx⟩ : ∃ x, s1.files[m]? = some x := ⟨_, List.getElem?_eq_getElem hml⟩; obtain ⟨g, cap, q, hlv, hg0, hgd, hgl, hq, g0, g1, gf, b1, b2⟩ := HD1.out.fileAt hx; obtain ⟨v0, v1⟩ := q; dsimp only at g0 g1 b1 b2; obtain ⟨A0, e0, ev0⟩ := b1.sl; subst ev0; obtain ⟨A1, e1, ev1⟩ := b2.sl; subst ev1; rw [hlv] at c1; have HX := Lib.hid hx; have HLV := Lib.hid hlv; have HQ := Lib.hid hq; have HB1 := Lib.hid b1; have HB2 := Lib.hid b2; clear hx hlv hq b1 b2; have i1 : (0 : Int) ≤ (i : Int) := (by omega); have i2 : (i : Int) < (s1.dir.length : Int) := (by omega); have m1 : (0 : Int) ≤ (m : Int) := (by omega); have m2 : (m : Int) < (s1.files.length : Int) := (by omega); have hdi : decide ((i : Int) < 0) = false := (by simp)
    go_still_tail 29, (by kernel_rfl)
    change wpList _ _ _ _ _ w2.drew
    go_wp2
    go_ret
    refine ⟨rfl, RDisk.keep (S := Grow S w) (w := w2.setCell ⟨g, m * 2 + 1, none⟩ (.slice A0 x.now.length e0)) ?_ (fun _ hs => hs) (fun _ _ _ => rfl), ((rafter_step HD1.out hsd.out ht1).2.drew).set1 g (m * 2 + 1) (.inl hg0) _⟩
    rw [Int.toNat_natCast, modify_set _ _ _ _ HX.out]
    exact (file_safe HD1.out HX.out HLV.out HQ.out HB1.out HB1.out).mono (fun _ hs => .inl hs)
end Go.Proofs.Ythdncdhgnoggkaa
