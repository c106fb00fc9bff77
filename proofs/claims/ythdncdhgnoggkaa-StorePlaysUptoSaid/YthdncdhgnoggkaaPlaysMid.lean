/-
  What the rounds of quirelaw22.StorePlays keep: the two disks, apart.
  Conditions: what comes can be read.
-/
import Derived.Test.YthdncdhgnoggkaaSimLaw
import Derived.Test.YthdncdhgnoggkaaRSave
import Derived.Test.YthdncdhgnoggkaaRBoot
import Derived.Test.YthdncdhgnoggkaaLasts
import Derived.Test.YthdncdhgnoggkaaWholeMid
set_option linter.unusedSimpArgs false
set_option linter.unusedVariables false
namespace Go.Proofs.Ythdncdhgnoggkaa
open Go.RowKit

/-- The two disks, and the block of the operation. -/
structure Both (w wr : World) (db1 db2 bx : Nat) (ob : Obj) (s : Dk) (t : RDk) : Prop where
  sets : ∃ S1 S2 : Nat → Prop, Disk S1 wr db1 s ∧ RDisk S2 wr db2 t ∧ (∀ j, S1 j → w.heap.size ≤ j ∧ j < wr.heap.size ∧ ¬ S2 j ∧ j ≠ bx) ∧ (∀ j, S2 j → w.heap.size ≤ j ∧ j < wr.heap.size ∧ j ≠ bx)
  below : Below w.heap.size w wr
  box : wr.heap[bx]? = some ob
section
variable {w wr w' : World} {db1 db2 bx : Nat} {ob : Obj} {s s' : Dk} {t t' : RDk} {S1 S2 : Nat → Prop}
theorem Both.turn1 (h2 : RDisk S2 wr db2 t) (c1 : ∀ j, S1 j → w.heap.size ≤ j ∧ j < wr.heap.size ∧ ¬ S2 j ∧ j ≠ bx) (c2 : ∀ j, S2 j → w.heap.size ≤ j ∧ j < wr.heap.size ∧ j ≠ bx) (hb : Below w.heap.size w wr) (hx : wr.heap[bx]? = some ob)
    (hd : Disk (Grow S1 wr) w' db1 s') (ht : Touch S1 wr w') : Both w w' db1 db2 bx ob s' t := by
  have hbx := (Array.getElem?_eq_some_iff.1 hx).1
  refine ⟨⟨Trim (Grow S1 wr) w', S2, hd.trim, h2.touch ht (fun k _ hs hs1 => (c1 k hs1).2.2.1 hs), fun j hj => ⟨?_, hj.2, ?_, ?_⟩, fun j hj => ⟨(c2 j hj).1, Nat.lt_of_lt_of_le (c2 j hj).2.1 ht.size, (c2 j hj).2.2⟩⟩, hb.trans (ht.below hb.size (fun k hk hs => by have := (c1 k hs).1; omega)), ht.heap hx (fun hs => (c1 bx hs).2.2.2 rfl)⟩
  · rcases hj.1 with h | h
    · exact (c1 j h).1
    · exact Nat.le_trans hb.size h
  · intro hs
    rcases hj.1 with h | h
    · exact (c1 j h).2.2.1 hs
    · have := (c2 j hs).2.1; omega
  · rcases hj.1 with h | h
    · exact (c1 j h).2.2.2
    · omega
theorem Both.turn2 (h1 : Disk S1 wr db1 s) (c1 : ∀ j, S1 j → w.heap.size ≤ j ∧ j < wr.heap.size ∧ ¬ S2 j ∧ j ≠ bx) (c2 : ∀ j, S2 j → w.heap.size ≤ j ∧ j < wr.heap.size ∧ j ≠ bx) (hb : Below w.heap.size w wr) (hx : wr.heap[bx]? = some ob)
    (hd : RAfter S2 wr db2 t' w') : Both w w' db1 db2 bx ob s t' := by
  have hbx := (Array.getElem?_eq_some_iff.1 hx).1
  obtain ⟨h2, ht⟩ := hd
  refine ⟨⟨S1, Trim (Grow S2 wr) w', h1.touch ht (fun k _ hs hs2 => (c1 k hs).2.2.1 hs2), h2.trim, fun j hj => ⟨(c1 j hj).1, Nat.lt_of_lt_of_le (c1 j hj).2.1 ht.size, ?_, (c1 j hj).2.2.2⟩, fun j hj => ⟨?_, hj.2, ?_⟩⟩, hb.trans (ht.below hb.size (fun k hk hs => by have := (c2 k hs).1; omega)), ht.heap hx (fun hs => (c2 bx hs).2.2 rfl)⟩
  · intro hs
    rcases hs.1 with h | h
    · exact (c1 j hj).2.2.1 h
    · have := (c1 j hj).2.1; omega
  · rcases hj.1 with h | h
    · exact (c2 j h).1
    · exact Nat.le_trans hb.size h
  · rcases hj.1 with h | h
    · exact (c2 j h).2.2
    · omega
theorem Both.still (h : Both w wr db1 db2 bx ob s t) (hb : Below wr.heap.size wr w') : Both w w' db1 db2 bx ob s t := by
  obtain ⟨S1, S2, h1, h2, c1, c2⟩ := h.sets
  exact ⟨⟨S1, S2, h1.below hb, h2.below hb, fun j hj => ⟨(c1 j hj).1, Nat.lt_of_lt_of_le (c1 j hj).2.1 hb.size, (c1 j hj).2.2⟩, fun j hj => ⟨(c2 j hj).1, Nat.lt_of_lt_of_le (c2 j hj).2.1 hb.size, (c2 j hj).2.2⟩⟩, h.below.trans (hb.mono h.below.size), below_heap hb h.box⟩
theorem Both.drewN (h : Both w wr db1 db2 bx ob s t) (n : Nat) : Both w (wr.drewN n) db1 db2 bx ob s t := h.still (below_drewN wr n)
/-- Between two rounds. -/
structure Two (w wr : World) (db1 db2 : Nat) (s : Dk) (t : RDk) : Prop where
  sets : ∃ S1 S2 : Nat → Prop, Disk S1 wr db1 s ∧ RDisk S2 wr db2 t ∧ (∀ j, S1 j → w.heap.size ≤ j ∧ j < wr.heap.size ∧ ¬ S2 j) ∧ (∀ j, S2 j → w.heap.size ≤ j ∧ j < wr.heap.size)
  below : Below w.heap.size w wr
theorem Both.two (h : Both w wr db1 db2 bx ob s t) : Two w wr db1 db2 s t := by
  obtain ⟨S1, S2, h1, h2, c1, c2⟩ := h.sets
  exact ⟨⟨S1, S2, h1, h2, fun j hj => ⟨(c1 j hj).1, (c1 j hj).2.1, (c1 j hj).2.2.1⟩, fun j hj => ⟨(c2 j hj).1, (c2 j hj).2.1⟩⟩, h.below⟩
theorem Both.drew (h : Both w wr db1 db2 bx ob s t) : Both w wr.drew db1 db2 bx ob s t := h.still ⟨rfl, rfl, rfl, Nat.le_refl _, fun _ _ => rfl⟩
/-- The next operation's block. -/
theorem Two.next (h : Two w wr db1 db2 s t) (o : Obj) : Both w (wr.alloc o) db1 db2 wr.heap.size o s t := by
  obtain ⟨S1, S2, h1, h2, c1, c2⟩ := h.sets
  have hb : Below wr.heap.size wr (wr.alloc o) := (Below.refl _ _).alloc (Nat.le_refl _) o
  exact ⟨⟨S1, S2, h1.below hb, h2.below hb, fun j hj => ⟨(c1 j hj).1, Nat.lt_of_lt_of_le (c1 j hj).2.1 hb.size, (c1 j hj).2.2, by have := (c1 j hj).2.1; omega⟩, fun j hj => ⟨(c2 j hj).1, Nat.lt_of_lt_of_le (c2 j hj).2 hb.size, by have := (c2 j hj).2; omega⟩⟩, h.below.trans (hb.mono h.below.size), World.alloc_heap_new wr o⟩
end

/-- How great both are behind K operations. -/
structure Sizes (K : Nat) (s : Dk) (t : RDk) : Prop where
  fit : Fit (6 * K) (1048576 * K) s
  good : Good (6 * K) s
  rfit : RFit (6 * K) (1048576 * K) t
  sim : Sim (6 * K) s t

theorem sizes_NM {K : Nat} (h : K ≤ 1048576) : (6 * K + 8) * (1048576 * K) ≤ 9223372036854775807 := by
  have h1 : (6 * K + 8) * (1048576 * K) ≤ (6 * 1048576 + 8) * (1048576 * 1048576) := Nat.mul_le_mul (by omega) (by omega)
  omega

section
variable {w wr : World} {db1 db2 bx : Nat} {ob : Obj} {s : Dk} {t : RDk} {K : Nat}
theorem out1 {S : Nat → Prop} {v : Value} {xs : List Int} (hs : Src w v xs) (h : ∀ j, S j → w.heap.size ≤ j) : Out S v := fun ad n c e hn hx => out_of hs ad n c e hn (h _ hx)

theorem bsave1 (h : Both w wr db1 db2 bx ob s t) (z : Sizes K s t) (hK : K ≤ 1048576) (p : ByteArray) (v : Value) (data : List Int) (hs : Src w v data) (hp : p.size ≤ 1048576) (hl : data.length ≤ 1048576) :
    Calls Try.prog 8 #[.pointer (some ⟨db1, 0, none⟩), .string p, v] wr fun e w' => e = .returned (.int .i64 (save p data s).1) ∧ Both w w' db1 db2 bx ob (save p data s).2 t := by
  obtain ⟨S1, S2, h1, h2, c1, c2⟩ := h.sets
  refine (save_ok S1 db1 s p data v wr _ _ h1 (hs.below h.below) (out1 hs (fun j hj => (c1 j hj).1)) (by omega) z.fit (by omega) (by omega)).mono ?_
  rintro e w' ⟨rfl, hd, ht⟩
  exact ⟨rfl, .turn1 h2 c1 c2 h.below h.box hd ht⟩
theorem bsave2 (h : Both w wr db1 db2 bx ob s t) {s0 : Dk} (z : Sizes K s0 t) (hK : K ≤ 1048576) (p : ByteArray) (v : Value) (data : List Int) (hs : Src w v data) (hp : p.size ≤ 1048576) (hl : data.length ≤ 1048576) :
    Calls Try.prog 15 #[.pointer (some ⟨db2, 0, none⟩), .string p, v] wr fun e w' => e = .returned (.int .i64 (rsave p data t).1) ∧ Both w w' db1 db2 bx ob s (rsave p data t).2 := by
  obtain ⟨S1, S2, h1, h2, c1, c2⟩ := h.sets
  refine (rsave_ok S2 db2 t p data v wr _ _ h2 (hs.below h.below) (out1 hs (fun j hj => (c2 j hj).1)) (by omega) z.rfit (by omega) (sizes_NM hK) (by omega)).mono ?_
  rintro e w' ⟨rfl, hd⟩
  exact ⟨rfl, .turn2 h1 c1 c2 h.below h.box hd⟩
/-- What the second load gives, the first one's bytes still there. -/
def Load2 (w wr : World) (db1 db2 bx : Nat) (ob : Obj) (s : Dk) (u : Value) (xs : List Int) (x : Int × Option (List Int) × RDk) (e : Ending) (w' : World) : Prop :=
  ∃ v, e = .returned (.tuple #[v, .int .i64 x.1]) ∧ Src w' v (x.2.1.getD []) ∧ Src w' u xs ∧ Both w w' db1 db2 bx ob s x.2.2
theorem bload (h : Both w wr db1 db2 bx ob s t) (z : Sizes K s t) (hK : K ≤ 1048576) (p : ByteArray) (hp : p.size ≤ 1048576) :
    Calls Try.prog 11 #[.pointer (some ⟨db1, 0, none⟩), .string p] wr fun e w1 => ∃ A c, e = .returned (.tuple #[.slice A ((load p s).2.1.getD []).length c, .int .i64 (load p s).1]) ∧ Both w w1 db1 db2 bx ob (load p s).2.2 t ∧
      Calls Try.prog 16 #[.pointer (some ⟨db2, 0, none⟩), .string p] w1 (Load2 w w1 db1 db2 bx ob (load p s).2.2 (.slice A ((load p s).2.1.getD []).length c) ((load p s).2.1.getD []) (rload p t)) := by
  obtain ⟨S1, S2, h1, h2, c1, c2⟩ := h.sets
  refine (load_ok S1 db1 s p wr h1 (by omega)).mono ?_
  rintro e w1 ⟨u, rfl, hu, hd, ht⟩
  obtain ⟨A, c, rfl⟩ := hu.sl
  have hb := Both.turn1 h2 c1 c2 h.below h.box hd ht
  refine ⟨A, c, rfl, hb, ?_⟩
  -- the second disk's own set
  have h2' := h2.touch ht (fun k _ hs hs1 => (c1 k hs1).2.2.1 hs)
  have c1' : ∀ j, Trim (Grow S1 wr) w1 j → w.heap.size ≤ j ∧ j < w1.heap.size ∧ ¬ S2 j ∧ j ≠ bx := by
    intro j hj
    refine ⟨?_, hj.2, ?_, ?_⟩
    · rcases hj.1 with h' | h'
      · exact (c1 j h').1
      · exact Nat.le_trans h.below.size h'
    · intro hs
      rcases hj.1 with h' | h'
      · exact (c1 j h').2.2.1 hs
      · have := (c2 j hs).2.1; omega
    · rcases hj.1 with h' | h'
      · exact (c1 j h').2.2.2
      · have := (Array.getElem?_eq_some_iff.1 h.box).1; omega
  have c2' : ∀ j, S2 j → w.heap.size ≤ j ∧ j < w1.heap.size ∧ j ≠ bx := fun j hj => ⟨(c2 j hj).1, Nat.lt_of_lt_of_le (c2 j hj).2.1 ht.size, (c2 j hj).2.2⟩
  refine (rload_ok S2 db2 t p w1 _ _ h2' (by omega) z.rfit (by omega)).mono ?_
  rintro e w2 ⟨v, rfl, hv, hd2⟩
  refine ⟨v, rfl, hv.src, ?_, .turn2 hd.trim c1' c2' hb.below hb.box hd2⟩
  refine hu.src.touch (fun ad n c' e hn hs => ?_) hd2.2
  obtain ⟨A', c'', e2, _, _, hr⟩ := hu
  cases e2
  cases e
  obtain ⟨b, o, _, _, e3, hk, _⟩ := hr hn
  cases e3
  have := (c2 _ hs).2.1
  dsimp only at this
  omega
theorem brecover1 (h : Both w wr db1 db2 bx ob s t) (z : Sizes K s t) (hK : K ≤ 1048576) (p : ByteArray) (hp : p.size ≤ 1048576) :
    Calls Try.prog 10 #[.pointer (some ⟨db1, 0, none⟩), .string p] wr fun e w' => e = .returned (.int .i64 (recover p s).1) ∧ Both w w' db1 db2 bx ob (recover p s).2 t := by
  obtain ⟨S1, S2, h1, h2, c1, c2⟩ := h.sets
  refine (recover_ok S1 db1 s p _ wr h1 (by omega) z.good (by omega) (by have := z.fit.np; omega)).mono ?_
  rintro e w' ⟨rfl, hd, ht⟩
  exact ⟨rfl, .turn1 h2 c1 c2 h.below h.box hd ht⟩
theorem brecover2 (h : Both w wr db1 db2 bx ob s t) {s0 : Dk} (z : Sizes K s0 t) (hK : K ≤ 1048576) (p : ByteArray) (hp : p.size ≤ 1048576) :
    Calls Try.prog 17 #[.pointer (some ⟨db2, 0, none⟩), .string p] wr fun e w' => e = .returned (.int .i64 (rrecover p t).1) ∧ Both w w' db1 db2 bx ob s (rrecover p t).2 := by
  obtain ⟨S1, S2, h1, h2, c1, c2⟩ := h.sets
  refine (rrecover_ok S2 db2 t p wr _ _ h2 (by omega) z.rfit (by omega)).mono ?_
  rintro e w' ⟨rfl, hd⟩
  exact ⟨rfl, .turn2 h1 c1 c2 h.below h.box hd⟩
theorem bboot1 (h : Both w wr db1 db2 bx ob s t) (A : Option Addr) (n c : Nat) (kept : List Int) (hk : IntsAt w A n kept) (en : Int) (hen : -9223372036854775808 ≤ en ∧ en ≤ 9223372036854775807) :
    Calls Try.prog 9 #[.pointer (some ⟨db1, 0, none⟩), .int .i64 en, .slice A n c] wr fun e w' => e = .returned (.tuple #[]) ∧ Both w w' db1 db2 bx ob (boot en kept s) t := by
  obtain ⟨S1, S2, ⟨r, h1⟩, h2, c1, c2⟩ := h.sets
  refine (boot_ok S1 db1 s r en A n c kept wr h1 (hk.below h.below) (fun b o e hp hs => ?_) hen).mono ?_
  · obtain ⟨b', o', e', hc⟩ := hk.2.2 hp
    rw [e] at e'
    cases e'
    have := World.block_lt_of_cell? _ _ (hc 0 hp)
    have := (c1 _ hs).1
    simp at *
    omega
  · rintro e w' ⟨rfl, hd, ht⟩
    exact ⟨rfl, .turn1 h2 c1 c2 h.below h.box hd ht⟩
theorem bboot2 (h : Both w wr db1 db2 bx ob s t) {s0 : Dk} (z : Sizes K s0 t) (hK : K ≤ 1048576) (A : Option Addr) (n c : Nat) (kept : List Int) (hk : IntsAt w A n kept) (en : Int) (hen : -9223372036854775808 ≤ en ∧ en ≤ 9223372036854775807) :
    Calls Try.prog 18 #[.pointer (some ⟨db2, 0, none⟩), .int .i64 en, .slice A n c] wr fun e w' => e = .returned (.tuple #[]) ∧ Both w w' db1 db2 bx ob s (rboot en kept t) := by
  obtain ⟨S1, S2, h1, h2, c1, c2⟩ := h.sets
  refine (rboot_ok S2 db2 t en A n c kept wr _ _ h2 (hk.below h.below) (fun b o e hp hs => ?_) hen z.rfit (by omega)).mono ?_
  · obtain ⟨b', o', e', hc⟩ := hk.2.2 hp
    rw [e] at e'
    cases e'
    have := World.block_lt_of_cell? _ _ (hc 0 hp)
    have := (c2 _ hs).1
    simp at *
    omega
  · rintro e w' ⟨rfl, hd⟩
    exact ⟨rfl, .turn2 h1 c1 c2 h.below h.box hd⟩
theorem bcreate1 (h : Both w wr db1 db2 bx ob s t) (z : Sizes K s t) (hK : K ≤ 1048576) (p : ByteArray) (hp : p.size ≤ 1048576) :
    Calls Try.prog 22 #[.pointer (some ⟨db1, 0, none⟩), .string p] wr fun e w' => e = .returned (.int .i64 (create p s).1) ∧ Both w w' db1 db2 bx ob (create p s).2 t := by
  obtain ⟨S1, S2, ⟨r, h1⟩, h2, c1, c2⟩ := h.sets
  refine (create_ok S1 db1 s r p wr h1 (by omega) (by have := z.fit.nf; omega) (by have := z.fit.np; omega)).mono ?_
  rintro e w' ⟨rfl, hd, ht⟩
  exact ⟨rfl, .turn1 h2 c1 c2 h.below h.box hd ht⟩
theorem bcreate2 (h : Both w wr db1 db2 bx ob s t) {s0 : Dk} (z : Sizes K s0 t) (hK : K ≤ 1048576) (p : ByteArray) (hp : p.size ≤ 1048576) :
    Calls Try.prog 23 #[.pointer (some ⟨db2, 0, none⟩), .string p] wr fun e w' => e = .returned (.int .i64 (rcreate p t).1) ∧ Both w w' db1 db2 bx ob s (rcreate p t).2 := by
  obtain ⟨S1, S2, h1, h2, c1, c2⟩ := h.sets
  refine (rcreate_ok S2 db2 t p wr _ _ h2 (by omega) z.rfit (by omega)).mono ?_
  rintro e w' ⟨rfl, hd⟩
  exact ⟨rfl, .turn2 h1 c1 c2 h.below h.box hd⟩
/-- What Arm leaves. -/
def Armed (w : World) (db1 db2 bx : Nat) (ob : Obj) (s : Dk) (t : RDk) (xs : List (Int × Int)) (e : Ending) (w' : World) : Prop :=
  ∃ s' z, e = .returned (.int .i64 z) ∧ Both w w' db1 db2 bx ob s' t ∧ (rarm xs t).1 = z ∧ ∀ K, Sizes K s t → K ≤ 1048576 → Sizes (K + 1) s' (rarm xs t).2
end
theorem Sizes.save {K : Nat} {s : Dk} {t : RDk} (z : Sizes K s t) (hK : K ≤ 1048576) (p : ByteArray) (data : List Int) (hl : data.length ≤ 1048576) : (rsave p data t).1 = (save p data s).1 ∧ Sizes (K + 1) (save p data s).2 (rsave p data t).2 := by
  obtain ⟨a, b⟩ := sim_save z.sim (by omega) p data
  exact ⟨a, (fit_save z.fit p data).mono (by omega) (by omega), (good_save z.good p data).mono (by omega), (rfit_save z.rfit p data).mono (by omega) (by omega), b.mono (by omega)⟩
theorem Sizes.load {K : Nat} {s : Dk} {t : RDk} (z : Sizes K s t) (hK : K ≤ 1048576) (p : ByteArray) : (rload p t).1 = (load p s).1 ∧ (rload p t).2.1 = (load p s).2.1 ∧ Sizes (K + 1) (load p s).2.2 (rload p t).2.2 := by
  obtain ⟨a, a2, b⟩ := sim_load z.sim (by omega) p
  exact ⟨a, a2, (fit_load z.fit p).mono (by omega) (by omega), (good_load z.good p).mono (by omega), (rfit_load z.rfit p).mono (by omega) (by omega), b.mono (by omega)⟩
theorem Sizes.recover {K : Nat} {s : Dk} {t : RDk} (z : Sizes K s t) (hK : K ≤ 1048576) (p : ByteArray) : (rrecover p t).1 = (recover p s).1 ∧ Sizes (K + 1) (recover p s).2 (rrecover p t).2 := by
  obtain ⟨a, b⟩ := sim_recover z.sim (by omega) p
  exact ⟨a, (fit_recover z.fit p).mono (by omega) (by omega), (good_recover z.good p).mono (by omega), (rfit_recover z.rfit p).mono (by omega) (by omega), b.mono (by omega)⟩
theorem Sizes.boot {K : Nat} {s : Dk} {t : RDk} (z : Sizes K s t) (en : Int) (kept : List Int) : Sizes (K + 1) (boot en kept s) (rboot en kept t) :=
  ⟨(fit_boot z.fit en kept).mono (by omega) (by omega), (good_boot z.good en kept).mono (by omega), (rfit_boot z.rfit en kept).mono (by omega) (by omega), (sim_boot z.sim en kept).mono (by omega)⟩
theorem Sizes.create {K : Nat} {s : Dk} {t : RDk} (z : Sizes K s t) (hK : K ≤ 1048576) (p : ByteArray) : (rcreate p t).1 = (create p s).1 ∧ Sizes (K + 1) (create p s).2 (rcreate p t).2 := by
  obtain ⟨a, b⟩ := sim_create z.sim (by omega) p
  exact ⟨a, (fit_create z.fit p).mono (by omega) (by omega), (good_create z.good p).mono (by omega), (rfit_create z.rfit p).mono (by omega) (by omega), b.mono (by omega)⟩
theorem Sizes.idle {K : Nat} {s : Dk} {t : RDk} (z : Sizes K s t) : Sizes (K + 1) s t :=
  ⟨z.fit.mono (by omega) (by omega), z.good.mono (by omega), z.rfit.mono (by omega) (by omega), z.sim.mono (by omega)⟩
theorem sizes_fresh (room : Int) (h : 0 ≤ room ∧ room ≤ 1073741824) : Sizes 0 (fresh room) (rfresh room) := ⟨fit_fresh room h, good_fresh room, rfit_fresh room h, sim_fresh room⟩
theorem barm1 {w wr : World} {db1 db2 bx : Nat} {ob : Obj} {s : Dk} {t : RDk} {K : Nat} (h : Both w wr db1 db2 bx ob s t) (z : Sizes K s t) (hK : K ≤ 1048576) {base : Nat} {v : Value} (xs : List (Int × Int)) (hrow : wr.ownsRow base 95 2 v xs.length (faultCells xs)) (hl : xs.length ≤ 1048576) :
    Calls Try.prog 19 #[.pointer (some ⟨db1, 0, none⟩), v] wr (Armed w db1 db2 bx ob s t xs) := by
  obtain ⟨S1, S2, ⟨r, h1⟩, h2, c1, c2⟩ := h.sets
  obtain ⟨A, c, rfl, hf⟩ := faults_of_row hrow
  have hst := z.sim.st
  refine (arm_ok S1 db1 s r A xs.length c xs wr h1 hf rfl (by omega) (by omega) (fun k hk => (c1 k hk).2.1)).mono ?_
  rintro e w' ⟨ht, ⟨rfl, hd, hbad⟩ | ⟨rfl, m, pl, ha, hl2, hp, hd⟩⟩
  · have hr := armGo_right xs hbad
    have er : rarm xs t = (1, t) := by simp [rarm, hr]
    rw [Armed, er]
    exact ⟨s, 1, rfl, .turn1 h2 c1 c2 h.below h.box hd ht, rfl, fun K' z' _ => z'.idle⟩
  · obtain ⟨e1, _⟩ := sim_arm z.sim (by omega) ha hl2 hp
    refine ⟨{ s with plan := pl }, 0, rfl, .turn1 h2 c1 c2 h.below h.box hd ht, by rw [e1], fun K' z' hK' => ?_⟩
    obtain ⟨e1', sim'⟩ := sim_arm z'.sim (by omega) ha hl2 hp
    rw [e1']
    have hz := rfit_arm z'.rfit xs
    rw [e1'] at hz
    exact ⟨Fit.mono (s := { s with plan := pl }) ⟨z'.fit.nf, z'.fit.np, z'.fit.nb, z'.fit.room⟩ (by omega) (by omega), Good.mono (s := { s with plan := pl }) ⟨z'.good.dl, z'.good.sl, z'.good.dn, z'.good.sn, z'.good.pn⟩ (by omega), hz.mono (by omega) (by omega), sim'.mono (by omega)⟩
theorem barm2 {w wr : World} {db1 db2 bx : Nat} {ob : Obj} {s : Dk} {t : RDk} (h : Both w wr db1 db2 bx ob s t) (A : Option Addr) (n c : Nat) (xs : List (Int × Int)) (hx : FaultsAt w A xs) (hn : xs.length = n) (hl : n ≤ 1048576) (hA : A = none → c = 0) :
    Calls Try.prog 21 #[.pointer (some ⟨db2, 0, none⟩), .slice A n c] wr fun e w' => e = .returned (.int .i64 (rarm xs t).1) ∧ Both w w' db1 db2 bx ob s (rarm xs t).2 := by
  obtain ⟨S1, S2, h1, h2, c1, c2⟩ := h.sets
  refine (rarm_ok S2 db2 t A n c xs wr h2 (hx.below h.below) hn (by omega) hA).mono ?_
  rintro e w' ⟨rfl, hd⟩
  exact ⟨rfl, .turn2 h1 c1 c2 h.below h.box hd⟩
end Go.Proofs.Ythdncdhgnoggkaa
