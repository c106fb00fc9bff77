/-
  What the rounds of quirelaw22.StoreWhole keep: the disk, the row of what may be told.
  Conditions: what comes can be read.
-/
import Derived.Test.YthdncdhgnoggkaaWholeLaw
import Derived.Test.YthdncdhgnoggkaaArm
import Derived.Test.YthdncdhgnoggkaaLasts
set_option linter.unusedSimpArgs false
set_option linter.unusedVariables false
namespace Go.Proofs.Ythdncdhgnoggkaa
open Go.RowKit

/-- Saves that are read: each its slice and its bytes. -/
def SavesAt (w : World) (A : Option Addr) (sv : List (Value × List Int)) : Prop :=
  (∀ (j : Nat) (q : Value × List Int), sv[j]? = some q → ∃ b o, A = some ⟨b, o, none⟩ ∧ w.cell? ⟨b, o + j, none⟩ = some q.1) ∧ ∀ q ∈ sv, Src w q.1 q.2
/-- The disk and the row of what may be told, apart. -/
structure WDisk (w wr : World) (db : Nat) (v : Value) (s : Dk) (mv : List (Value × List Int)) : Prop where
  dsk : ∃ S : Nat → Prop, Disk S wr db s ∧ (∀ k, S k → w.heap.size ≤ k ∧ k < wr.heap.size) ∧ (∀ k, v.ownBlock = some k → ¬ S k)
  row : wr.ownsRow w.heap.size 22 1 v mv.length (mv.map (·.1))
  below : Below w.heap.size w wr
/-- Between two rounds. -/
structure WMid (w : World) (sv : List (Value × List Int)) (db k : Nat) (v14 : Value) (wr : World) (s : Dk) (mv : List (Value × List Int)) (none : Bool) : Prop extends WDisk w wr db v14 s mv where
  inv : Inv s (mv.map (·.2)) none
  fit : Fit (3 * k) (4096 * k) s
  good : Good (3 * k) s
  sub : ∀ q ∈ mv, q ∈ sv
  len : mv.length ≤ k
theorem WDisk.made {w wr : World} {db : Nat} {s : Dk} (h : Disk (fun k => w.heap.size ≤ k) wr db s) (hb : Below w.heap.size w wr) : WDisk w wr db (.slice none 0 0) s [] :=
  ⟨⟨_, h.trim, fun k hk => hk, fun k e => by simp [Value.ownBlock] at e⟩, ⟨rfl, .inl ⟨rfl, rfl⟩⟩, hb⟩
theorem WDisk.nil {w wr : World} {db : Nat} {v : Value} {s : Dk} {mv : List (Value × List Int)} (h : WDisk w wr db v s mv) : WDisk w wr db (.slice none 0 0) s [] := by
  obtain ⟨S, h1, h2, h3⟩ := h.dsk
  exact ⟨⟨S, h1, h2, fun k e => by simp [Value.ownBlock] at e⟩, ⟨rfl, .inl ⟨rfl, rfl⟩⟩, h.below⟩
/-- What an operation on the disk leaves. -/
theorem WDisk.turn {S : Nat → Prop} {w wr w' : World} {db : Nat} {v : Value} {s' : Dk} {mv : List (Value × List Int)} (hS : ∀ k, S k → w.heap.size ≤ k ∧ k < wr.heap.size) (hv : ∀ k, v.ownBlock = some k → ¬ S k)
    (row : wr.ownsRow w.heap.size 22 1 v mv.length (mv.map (·.1))) (below : Below w.heap.size w wr) (hd : Disk (Grow S wr) w' db s') (ht : Touch S wr w') : WDisk w w' db v s' mv := by
  refine ⟨⟨_, hd.trim, fun k hk => ⟨?_, hk.2⟩, fun k e hk => ?_⟩, own_keep row (fun k o ho e _ => ht.heap ho (hv k e)), below.trans (ht.below below.size (fun k hk hs => by have := (hS k hs).1; omega))⟩
  · rcases hk.1 with h1 | h1
    · exact (hS k h1).1
    · exact Nat.le_trans below.size h1
  · have := own_lt row e
    rcases hk.1 with h1 | h1
    · exact hv k e h1
    · omega
theorem WDisk.push {w wr w' : World} {db : Nat} {v : Value} {s : Dk} {mv : List (Value × List Int)} (h : WDisk w wr db v s mv) (q : Value × List Int) {g cap : Nat}
    (hg : (wr.alloc (.cells #[q.1] 22)).grownBy w' v.ownBlock) (hown : w'.ownsRow w.heap.size 22 1 (.slice (some ⟨g, 0, none⟩) (mv.length + 1) cap) (mv.length + 1) (mv.map (·.1) ++ [q.1])) (hat : v.ownBlock = some g ∨ g = wr.heap.size + 1) :
    WDisk w w' db (.slice (some ⟨g, 0, none⟩) (mv ++ [q]).length cap) s (mv ++ [q]) := by
  obtain ⟨S, h1, h2, h3⟩ := h.dsk
  have hl : (mv ++ [q]).length = mv.length + 1 := by simp
  refine ⟨⟨S, h1.keep (fun _ hs => hs) (fun k hs hk => ?_), fun k hk => ⟨(h2 k hk).1, ?_⟩, fun k e hk => ?_⟩, ?_, ?_⟩
  · rw [hg.block k (by simp; omega) (fun e => h3 k e.symm hs)]
    exact Below.heap_alloc _ _ _ hk
  · have := (h2 k hk).2
    have := hg.size
    simp at this
    omega
  · have e' : g = k := by simpa [Value.ownBlock] using e
    subst e'
    rcases hat with hat | hat
    · exact h3 g hat hk
    · have := (h2 g hk).2
      omega
  · rw [hl, List.map_append]
    exact hown
  · have := h.below.alloc h.below.size (.cells #[q.1] 22)
    exact this.grown hg (by have := this.size; exact this) (fun k e => own_base h.row e)

theorem wsave {w wr : World} {db : Nat} {v : Value} {s : Dk} {mv : List (Value × List Int)} (h : WDisk w wr db v s mv) (q : Value × List Int) (hq : Src w q.1 q.2) {N M : Nat} (hf : Fit N M s) (hN : N ≤ 1073741824) (hM : M ≤ 1099511627776) (hl : q.2.length ≤ 4096) :
    Calls Try.prog 8 #[.pointer (some ⟨db, 0, none⟩), .string ⟨#[98]⟩, q.1] wr fun e w' => e = .returned (.int .i64 (save nameB q.2 s).1) ∧ WDisk w w' db v (save nameB q.2 s).2 mv := by
  obtain ⟨S, h1, h2, h3⟩ := h.dsk
  refine (save_ok S db s nameB q.2 q.1 wr N M h1 (hq.below h.below) (fun ad n c e hn hs => out_of hq ad n c e hn (h2 _ hs).1) (by decide) hf (by omega) (by omega)).mono ?_
  rintro e w' ⟨rfl, hd, ht⟩
  exact ⟨rfl, .turn h2 h3 h.row h.below hd ht⟩
theorem wboot {w wr : World} {db : Nat} {v : Value} {s : Dk} {mv : List (Value × List Int)} (h : WDisk w wr db v s mv) (A : Option Addr) (n c : Nat) (kept : List Int) (hk : IntsAt w A n kept) (en : Int) (hen : -9223372036854775808 ≤ en ∧ en ≤ 9223372036854775807) :
    Calls Try.prog 9 #[.pointer (some ⟨db, 0, none⟩), .int .i64 en, .slice A n c] wr fun e w' => e = .returned (.tuple #[]) ∧ WDisk w w' db v (boot en kept s) mv := by
  obtain ⟨S, ⟨r, h1⟩, h2, h3⟩ := h.dsk
  refine (boot_ok S db s r en A n c kept wr h1 (hk.below h.below) (fun b o e hp hs => ?_) hen).mono ?_
  · obtain ⟨b', o', e', hc⟩ := hk.2.2 hp
    rw [e] at e'
    cases e'
    have := World.block_lt_of_cell? _ _ (hc 0 hp)
    have := (h2 _ hs).1
    simp at *
    omega
  · rintro e w' ⟨rfl, hd, ht⟩
    exact ⟨rfl, .turn h2 h3 h.row h.below hd ht⟩
theorem wrecover {w wr : World} {db : Nat} {v : Value} {s : Dk} {mv : List (Value × List Int)} (h : WDisk w wr db v s mv) {D : Nat} (hg : Good D s) (hD : D ≤ 549755813888) (hp : s.pend.length ≤ 549755813888) :
    Calls Try.prog 10 #[.pointer (some ⟨db, 0, none⟩), .string ⟨#[98]⟩] wr fun e w' => e = .returned (.int .i64 (recover nameB s).1) ∧ WDisk w w' db v (recover nameB s).2 mv := by
  obtain ⟨S, h1, h2, h3⟩ := h.dsk
  refine (recover_ok S db s nameB D wr h1 (by decide) hg hD hp).mono ?_
  rintro e w' ⟨rfl, hd, ht⟩
  exact ⟨rfl, .turn h2 h3 h.row h.below hd ht⟩
/-- What a load gives, with the row still there. -/
def WLoad (w : World) (v : Value) (mv : List (Value × List Int)) (x : Option (List Int)) (z : Int) (e : Ending) (w' : World) : Prop :=
  ∃ u, e = .returned (.tuple #[u, .int .i64 z]) ∧ Src w' u (x.getD []) ∧ w'.ownsRow w.heap.size 22 1 v mv.length (mv.map (·.1)) ∧ Below w.heap.size w w'
theorem wload {w wr : World} {db : Nat} {v : Value} {s : Dk} {mv : List (Value × List Int)} (h : WDisk w wr db v s mv) :
    Calls Try.prog 11 #[.pointer (some ⟨db, 0, none⟩), .string ⟨#[98]⟩] wr (WLoad w v mv (load nameB s).2.1 (load nameB s).1) := by
  obtain ⟨S, h1, h2, h3⟩ := h.dsk
  refine (load_ok S db s nameB wr h1 (by decide)).mono ?_
  rintro e w' ⟨u, rfl, hu, hd, ht⟩
  have := WDisk.turn h2 h3 h.row h.below hd ht
  exact ⟨u, rfl, hu.src, this.row, this.below⟩
/-- What a load of a calm disk gives. -/
theorem wtell {w wr : World} {db : Nat} {v : Value} {s : Dk} {mv : List (Value × List Int)} {nn : Bool} (h : WDisk w wr db v s mv) (hc : Calm s (mv.map (·.2)) nn) :
    (nn = true ∧ Calls Try.prog 11 #[.pointer (some ⟨db, 0, none⟩), .string ⟨#[98]⟩] wr (WLoad w v mv .none 63)) ∨ (∃ (j : Nat) (q : Value × List Int), mv[j]? = some q ∧ Calls Try.prog 11 #[.pointer (some ⟨db, 0, none⟩), .string ⟨#[98]⟩] wr (WLoad w v mv (some q.2) 0)) := by
  have k := wload h
  rcases calm_load hc with ⟨h1, h2, h3⟩ | ⟨x, hx, h2, h3⟩
  · rw [h2, h3] at k
    exact .inl ⟨h1, k⟩
  · rw [h2, h3] at k
    obtain ⟨q, hq, rfl⟩ := List.mem_map.1 hx
    obtain ⟨j, hj⟩ := List.getElem?_of_mem hq
    exact .inr ⟨j, q, hj, k⟩
theorem row_at {w : World} {base n c j : Nat} {g : Option Addr} {mv : List (Value × List Int)} {q : Value × List Int} (h : w.ownsRow base 22 1 (.slice g n c) n (mv.map (·.1))) (hn : n = mv.length) (hj : mv[j]? = some q) : ∃ g', g = some ⟨g', 0, none⟩ ∧ w.cell? ⟨g', j, none⟩ = some q.1 := by
  have hl := (List.getElem?_eq_some_iff.1 hj).1
  rcases h.2 with ⟨e, h0⟩ | ⟨g', cap, cur, e, _⟩
  · omega
  · cases e
    exact ⟨g', rfl, by rw [h.cellAt j (by omega), List.getElem?_map, hj]; rfl⟩
theorem WMid.next {w wr w' : World} {sv mv : List (Value × List Int)} {db k : Nat} {v v' : Value} {s : Dk} {none : Bool} (h : WMid w sv db k v wr s mv none) {q : Value × List Int} (hq : q ∈ sv) (hl : q.2.length ≤ 4096) (hz : ¬ (save nameB q.2 s).1 = 0)
    (hd : WDisk w w' db v' (save nameB q.2 s).2 (mv ++ [q])) : WMid w sv db (k + 1) v' w' (save nameB q.2 s).2 (mv ++ [q]) none :=
  { hd with
    inv := by rw [List.map_append]; exact (inv_save h.inv q.2 hl).1
    fit := (fit_save h.fit nameB q.2).mono (by omega) (by omega)
    good := (good_save h.good nameB q.2).mono (by omega)
    sub := fun x hx => by
      rcases List.mem_append.1 hx with hx | hx
      · exact h.sub x hx
      · rw [List.mem_singleton.1 hx]; exact hq
    len := by have := h.len; simp; omega }
theorem WMid.anew {w wr w' : World} {sv mv : List (Value × List Int)} {db k : Nat} {v v' : Value} {s : Dk} {none : Bool} (h : WMid w sv db k v wr s mv none) {q : Value × List Int} (hq : q ∈ sv) (hl : q.2.length ≤ 4096) (hz : (save nameB q.2 s).1 = 0)
    (hd : WDisk w w' db v' (save nameB q.2 s).2 [q]) : WMid w sv db (k + 1) v' w' (save nameB q.2 s).2 [q] false :=
  { hd with
    inv := (inv_save h.inv q.2 hl).2 hz
    fit := (fit_save h.fit nameB q.2).mono (by omega) (by omega)
    good := (good_save h.good nameB q.2).mono (by omega)
    sub := fun x hx => by rw [List.mem_singleton.1 hx]; exact hq
    len := by simp }

/-- What Arm leaves, at a plan that Plan made. -/
def ArmW (w w1 : World) (e : Ending) (w' : World) : Prop := Below w.heap.size w w' ∧ (e = .returned (.int .i64 1) ∨ (e = .returned (.int .i64 0) ∧ ∃ pl, Disk (fun k => w.heap.size ≤ k) w' (w.heap.size + 2) { fresh 1073741824 with plan := pl }))
theorem faults_of_row {base : Nat} {w : World} {v : Value} {xs : List (Int × Int)} (h : w.ownsRow base 95 2 v xs.length (faultCells xs)) : ∃ A c, v = .slice A xs.length c ∧ FaultsAt w A xs := by
  rcases h.2 with ⟨e, hn⟩ | ⟨g, cap, cur, e, _, hh, h1, h2, h3, h4⟩
  · exact ⟨none, 0, by rw [e, hn], fun hp => by omega⟩
  · refine ⟨_, cap, e, fun hp => ⟨g, 0, rfl, fun j p hj => ?_⟩⟩
    have hjl := (List.getElem?_eq_some_iff.1 hj).1
    have key : ∀ (l : List (Int × Int)) (j : Nat), l[j]? = some p → ∀ q, q < 2 → (faultCells l)[2 * j + q]? = ([.int .i64 p.1, .int .i64 p.2] : List Value)[q]? := by
      intro l
      induction l with
      | nil => intro j hj; simp at hj
      | cons x l ih =>
        intro j hj q hq
        have hl : ([.int .i64 x.1, .int .i64 x.2] : List Value).length = 2 := rfl
        unfold faultCells
        cases j with
        | zero =>
          simp at hj
          subst hj
          rw [List.flatMap_cons, List.getElem?_append_left (by omega)]
          simp
        | succ j =>
          rw [List.flatMap_cons, List.getElem?_append_right (by omega), hl, show 2 * (j + 1) + q - 2 = 2 * j + q by omega]
          exact ih j (by simpa using hj) q hq
    have hc : ∀ q, q < 2 → cur[2 * j + q]? = ([.int .i64 p.1, .int .i64 p.2] : List Value)[q]? := fun q hq => by
      rw [← key xs j hj q hq, ← h4, List.getElem?_take, if_pos (by omega), Array.getElem?_toList]
    have c0 := hc 0 (by omega)
    have c1 := hc 1 (by omega)
    simp only [Nat.zero_add, Nat.add_zero] at c0 c1 ⊢
    exact ⟨by simp [World.cell?, hh, c0], by simp [World.cell?, hh, c1]⟩
theorem FaultsAt.below {w w' : World} {A : Option Addr} {xs : List (Int × Int)} (h : FaultsAt w A xs) (hb : Below w.heap.size w w') : FaultsAt w' A xs := fun hp => by
  obtain ⟨b, o, e, hc⟩ := h hp
  exact ⟨b, o, e, fun j p hj => ⟨(hb.cell (World.block_lt_of_cell? _ _ (hc j p hj).1)).trans (hc j p hj).1, (hb.cell (World.block_lt_of_cell? _ _ (hc j p hj).2)).trans (hc j p hj).2⟩⟩
theorem arm_whole (w w1 : World) (v : Value) (xs : List (Int × Int)) (hd : Disk (fun k => w.heap.size ≤ k) w1 (w.heap.size + 2) (fresh 1073741824)) (hb : Below w.heap.size w w1) {base : Nat} (hrow : w1.ownsRow base 95 2 v xs.length (faultCells xs)) (hl : xs.length ≤ 4294967296) :
    Calls Try.prog 19 #[.pointer (some ⟨w.heap.size + 2, 0, none⟩), v] w1 (ArmW w w1) := by
  obtain ⟨r, hd⟩ := hd
  obtain ⟨A, c, rfl, hf⟩ := faults_of_row hrow
  refine (arm_ok (Trim (fun k => w.heap.size ≤ k) w1) (w.heap.size + 2) (fresh 1073741824) r A xs.length c xs w1 hd.trim hf rfl hl (by decide) (fun k hk => hk.2)).mono ?_
  rintro e w' ⟨ht, h⟩
  have hb' : Below w.heap.size w w' := hb.trans (ht.below hb.size (fun k hk hs => by have : w.heap.size ≤ k := hs.1; omega))
  refine ⟨hb', ?_⟩
  rcases h with ⟨h1, _, _⟩ | ⟨h1, m, pl, _, _, _, h2⟩
  · exact .inl h1
  · exact .inr ⟨h1, pl, h2.mono (fun k hk => by rcases hk with hk | hk; exact hk.1; exact Nat.le_trans hb.size hk)⟩

end Go.Proofs.Ythdncdhgnoggkaa
