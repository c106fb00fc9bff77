/-
  The contracts of the reference's change, New.
  Conditions: lists are no longer than Go allows.
-/
import Derived.Test.YthdncdhgnoggkaaRSet
set_option linter.unusedSimpArgs false
set_option linter.unusedVariables false
namespace Go.Proofs.Ythdncdhgnoggkaa
open Go.RowKit

def one1 (b : Bool) : Nat := if b then 0 else 1
theorem rsetGo_len (n : ByteArray) (f : Int) (l : RDir) : ∀ d, (rsetGo n f l d).1.length + one1 (rsetGo n f l d).2 ≤ l.length + one1 d := by
  induction l with
  | nil => intro d; simp [rsetGo]
  | cons p l ih =>
    intro d
    simp only [rsetGo, List.length_append, List.length_cons]
    have h := ih (d || (!d && gtB p.1 n))
    have e1 : (if p.1 = n then ([] : RDir) else [p]).length ≤ 1 := by split <;> simp
    have e2 : (if (!d && gtB p.1 n) = true then [(n, f)] else ([] : RDir)).length + one1 (d || (!d && gtB p.1 n)) ≤ one1 d := by
      cases d <;> cases gtB p.1 n <;> simp [one1]
    omega
theorem rset_len (l : RDir) (n : ByteArray) (f : Int) : (rset l n f).length ≤ l.length + 1 := by
  have h := rsetGo_len n f l (decide (f < 0))
  unfold rset
  dsimp only
  have e : one1 (decide (f < 0)) ≤ 1 := by unfold one1; split <;> omega
  split
  · omega
  · rename_i hb
    unfold one1 at h e
    rw [if_neg hb] at h
    simp
    omega
theorem rsetGo_mem (n : ByteArray) (f : Int) (l : RDir) : ∀ d, ∀ p ∈ (rsetGo n f l d).1, p ∈ l ∨ (p = (n, f) ∧ d = false) := by
  induction l with
  | nil => intro d p hp; simp [rsetGo] at hp
  | cons q l ih =>
    intro d p hp
    simp only [rsetGo, List.mem_append] at hp
    rcases hp with (hp | hp) | hp
    · cases d <;> cases hg : gtB q.1 n <;> simp [hg] at hp
      exact .inr ⟨hp, rfl⟩
    · split at hp
      · cases hp
      · rw [List.mem_singleton] at hp; exact .inl (by rw [hp]; simp)
    · rcases ih _ p hp with h | ⟨h, h2⟩
      · exact .inl (List.mem_cons_of_mem _ h)
      · refine .inr ⟨h, ?_⟩
        cases d
        · rfl
        · cases h2
theorem rsetGo_snd (n : ByteArray) (f : Int) (l : RDir) : (rsetGo n f l true).2 = true := by
  induction l with
  | nil => rfl
  | cons q l ih => simp only [rsetGo, Bool.true_or]; exact ih
theorem rset_mem (l : RDir) (n : ByteArray) (f : Int) : ∀ p ∈ rset l n f, p ∈ l ∨ (p = (n, f) ∧ 0 ≤ f) := by
  intro p hp
  unfold rset at hp
  dsimp only at hp
  by_cases hf : f < 0
  · rw [decide_eq_true hf, rsetGo_snd, if_pos rfl] at hp
    rcases rsetGo_mem n f l true p hp with h | ⟨_, h⟩
    · exact .inl h
    · cases h
  · rw [decide_eq_false hf] at hp
    split at hp
    · rcases rsetGo_mem n f l false p hp with h | ⟨h, _⟩
      · exact .inl h
      · exact .inr ⟨h, by omega⟩
    · rcases List.mem_append.1 hp with h | h
      · rcases rsetGo_mem n f l false p h with h | ⟨h, _⟩
        · exact .inl h
        · exact .inr ⟨h, by omega⟩
      · exact .inr ⟨List.mem_singleton.1 h, by omega⟩
theorem rputs_len (l : RDir) : ∀ d, (rputs d l).length ≤ d.length + l.length := by
  induction l with
  | nil => intro d; simp [rputs]
  | cons p l ih =>
    intro d
    have := ih (rset d p.1 p.2)
    have := rset_len d p.1 p.2
    show (rputs (rset d p.1 p.2) l).length ≤ _
    simp
    omega
theorem rputs_in {N : Nat} (l : RDir) (hl : ∀ p ∈ l, p.2 < N) : ∀ d : RDir, (∀ p ∈ d, 0 ≤ p.2 ∧ p.2 < (N : Int)) → ∀ p ∈ rputs d l, 0 ≤ p.2 ∧ p.2 < (N : Int) := by
  induction l with
  | nil => intro d hd; exact hd
  | cons q l ih =>
    intro d hd
    refine ih (fun p hp => hl p (List.mem_cons_of_mem _ hp)) _ (fun p hp => ?_)
    rcases rset_mem d q.1 q.2 p hp with h | ⟨h, h0⟩
    · exact hd p h
    · have := hl q (by simp)
      rw [h]
      exact ⟨h0, this⟩

section
variable {S S' : Nat → Prop} {w w' : World} {db : Nat} {s : RDk} {r : RRep}
theorem RDiskRep.below (h : RDiskRep S w db s r) (hb : Below w.heap.size w w') : RDiskRep S w' db s r := h.keep (fun _ hs => hs) (fun k _ hk => hb.block k hk)
/-- The directory is another. -/
theorem RDiskRep.dirTurn (h : RDiskRep S w db s r) (hS : ∀ k, S k → S' k) (hk : ∀ k o, w.heap[k]? = some o → k ≠ db → w'.heap[k]? = some o) {v : Value} {l : RDir} (hl : EntsIn S' w' v l) (hin : ∀ p ∈ l, 0 ≤ p.2 ∧ p.2 < (s.files.length : Int))
    (hb : w'.heap[db]? = some (.cells #[.int .i64 s.room, r.lv, v, r.sv, r.wv, r.pv, .int .i64 s.src, .int .i64 s.n, .bool s.down] 56 (0, 0))) : RDiskRep S' w' db { s with dir := l } { r with dv := v } := by
  have hk1 : ∀ k o, w.heap[k]? = some o → et o ≠ some 56 → w'.heap[k]? = some o := fun k o ho he => hk k o ho (fun e => by
    subst e
    rw [h.blk] at ho
    cases ho
    exact he rfl)
  have hk2 : ∀ k o, w.heap[k]? = some o → S k → Still o → w'.heap[k]? = some o := fun k o ho _ hs => hk1 k o ho (by rcases hs with e | e | e <;> rw [e] <;> simp)
  exact { sdb := hS _ h.sdb, blk := hb, rows := own_keep h.rows (fun k o ho _ he => hk1 k o ho (by rw [he]; simp)), rowS := fun k e => hS _ (h.rowS k e), files := h.filesK hS hk2, dir := hl, sdir := h.sdir.keepS hS hk2,
          wait := own_keep h.wait (fun k o ho _ he => hk1 k o ho (by rw [he]; simp)), waitS := fun k e => hS _ (h.waitS k e), waits := h.waitsK hS hk2, plan := h.plan.keepS hS hk2, inD := hin, inS := h.inS, inW := h.inW }
end

/-- A directory has been made anew and laid in. -/
theorem rset_round {G : Nat → Prop} {w1 wr : World} {db : Nat} {s : RDk} {r : RRep} {d1 : RDir} {v1 : Value} (h : RDiskRep G wr db s r) (hb : Below wr.heap.size wr w1) (hv : EntsIn (fun k => wr.heap.size ≤ k) w1 v1 d1) (hG : ∀ k, wr.heap.size ≤ k → G k)
    (hin : ∀ p ∈ d1, 0 ≤ p.2 ∧ p.2 < (s.files.length : Int)) : RDiskRep G (w1.setCell ⟨db, 2, none⟩ v1) db { s with dir := d1 } { r with dv := v1 } := by
  have hblk := below_heap hb h.blk
  refine h.dirTurn (fun _ hs => hs) (fun k o ho hne => ?_) (PairsIn.keep hv hG (fun k o ho _ he => ?_)) hin (by rw [heap_setCell8 hblk]; rfl)
  · rw [Below.heap_setCell _ _ _ _ (by exact hne)]
    exact below_heap hb ho
  · rw [Below.heap_setCell _ _ _ _ (by
      intro e
      have e' : k = db := e
      subst e'
      rw [hblk] at ho
      cases ho
      cases he)]
    exact ho
/-- One more change waits. -/
theorem RDiskRep.waitTurn {G : Nat → Prop} {wr w2 : World} {db g cap : Nat} {s : RDk} {r : RRep} {l : RDir} {v : Value} (h : RDiskRep G wr db s r) (hl : EntsIn G wr v l) (hin : ∀ p ∈ l, p.2 < (s.files.length : Int)) (hG : ∀ k, wr.heap.size ≤ k → G k)
    (hg : (wr.alloc (.cells #[v] 53)).grownBy w2 r.wv.ownBlock) (hown : w2.ownsRow 0 53 1 (.slice (some ⟨g, 0, none⟩) (s.wait.length + 1) cap) (s.wait.length + 1) (r.wvs ++ [v])) (hat : r.wv.ownBlock = some g ∨ g = wr.heap.size + 1) :
    RDiskRep G (w2.setCell ⟨db, 4, none⟩ (.slice (some ⟨g, 0, none⟩) (s.wait.length + 1) cap)) db { s with wait := s.wait ++ [l] } { r with wv := .slice (some ⟨g, 0, none⟩) (s.wait.length + 1) cap, wvs := r.wvs ++ [v] } := by
  have hne := own_ne h.wait h.blk (by simp [et])
  have hblk2 := grown_heap hg (alloc_heap h.blk _) hne
  have hgdb : g ≠ db := fun e => by
    subst e
    rcases hat with e | e
    · exact hne e
    · have := (Array.getElem?_eq_some_iff.1 h.blk).1
      omega
  have hk1 : ∀ k o, wr.heap[k]? = some o → et o ≠ some 56 → et o ≠ some 53 → (w2.setCell ⟨db, 4, none⟩ (.slice (some ⟨g, 0, none⟩) (s.wait.length + 1) cap)).heap[k]? = some o := fun k o ho he he2 => by
    rw [Below.heap_setCell _ _ _ _ (by
      intro e
      have e' : k = db := e
      subst e'
      rw [h.blk] at ho
      cases ho
      exact he rfl)]
    exact grown_heap hg (alloc_heap ho _) (own_ne h.wait ho he2)
  have hk2 : ∀ k o, wr.heap[k]? = some o → G k → Still o → (w2.setCell ⟨db, 4, none⟩ (.slice (some ⟨g, 0, none⟩) (s.wait.length + 1) cap)).heap[k]? = some o := fun k o ho _ hs => hk1 k o ho (by rcases hs with e | e | e <;> rw [e] <;> simp) (by rcases hs with e | e | e <;> rw [e] <;> simp)
  have hwl := h.wait.1
  exact { sdb := h.sdb, blk := by rw [heap_setCell8 hblk2]; rfl, rows := own_keep h.rows (fun k o ho _ he => hk1 k o ho (by rw [he]; simp) (by rw [he]; simp)), rowS := h.rowS, files := h.filesK (fun _ hs => hs) hk2, dir := h.dir.keepS (fun _ hs => hs) hk2, sdir := h.sdir.keepS (fun _ hs => hs) hk2,
          wait := by
            rw [List.length_append]
            exact own_keep hown (fun k o ho e _ => by
              have e' : g = k := by simpa [Value.ownBlock] using e
              subst e'
              rw [Below.heap_setCell _ _ _ _ (by exact hgdb)]
              exact ho),
          waitS := fun k e => by
            have e' : g = k := by simpa [Value.ownBlock] using e
            subst e'
            rcases hat with e | e
            · exact h.waitS _ e
            · exact hG _ (by omega),
          waits := fun i l' hl' => by
            by_cases hi : i < s.wait.length
            · rw [List.getElem?_append_left hi] at hl'
              obtain ⟨u, h1, h2⟩ := h.waitsK (fun _ hs => hs) hk2 i l' hl'
              exact ⟨u, by rw [List.getElem?_append_left (List.getElem?_eq_some_iff.1 h1).1]; exact h1, h2⟩
            · have hil := (List.getElem?_eq_some_iff.1 hl').1
              simp at hil
              have hi' : i = s.wait.length := by omega
              subst hi'
              rw [List.getElem?_append_right (Nat.le_refl _), Nat.sub_self] at hl'
              cases hl'
              exact ⟨v, by rw [List.getElem?_append_right (by omega)]; simp [hwl], hl.keepS (fun _ hs => hs) hk2⟩,
          plan := h.plan.keepS (fun _ hs => hs) hk2, inD := h.inD, inS := h.inS,
          inW := fun l' hl' => by
            rcases List.mem_append.1 hl' with h1 | h1
            · exact h.inW l' h1
            · rw [List.mem_singleton.1 h1]; exact hin }
theorem info53 : (Try.prog.info? 53).map (fun i => (i.zero, i.size, i.bytes)) = some (some (.slice none 0 0), 1, 24) := by kernel_rfl

set_option maxRecDepth 100000 in
set_option maxHeartbeats 4000000 in
theorem rchange_ok (S : Nat → Prop) (db : Nat) (s : RDk) (r : RRep) (v : Value) (l : RDir) (w : World) (h : RDiskRep S w db s r) (hv : EntsIn S w v l) (hd : s.dir.length + l.length ≤ 1099511627776) (hw : s.wait.length ≤ 1099511627776) (hin : ∀ p ∈ l, p.2 < (s.files.length : Int)) :
    Calls Try.prog 53 #[fptr db, v] w fun e w' => e = .returned (.tuple #[]) ∧ RDisk (Grow S w) w' db (rchange l s) ∧ Touch S w w' := by
  unfold fptr
  obtain ⟨i0, hi, hz0, hz1, hz2⟩ := info_parts info53
  have HI := Lib.hid hi
  obtain ⟨A, c, rfl, hl, hc⟩ := hv.sl
  obtain ⟨L, hL⟩ : ∃ L, l.length = L := ⟨_, rfl⟩
  rw [hL] at hl hc hv hd ⊢
  have HL := Lib.hid hL
  have HV := Lib.hid hv
  have H0 := Lib.hid h
  have hlt := (cells9 h.blk).2.2
  have HIN := Lib.hid hin
  clear hi hL hv h hin
  go_enter Try.func53, Try.ntmps53
  go_wp2_with fail
  go_loopw [4] (fun i wr => ∃ k : Nat, k ≤ L ∧ i = .int .i64 k ∧ ∃ dv, Hid (RDiskRep (Grow S w) wr db { s with dir := rputs s.dir (l.take k) } { r with dv := dv }) ∧ Hid (EntsIn (Grow S w) wr (.slice A L c) l) ∧ Touch S w wr) (fun i _ => L - (intOf i).toNat)
  case atStart => exact ⟨0, Nat.zero_le _, rfl, r.dv, H0.out.keep (fun _ hs => .inl hs) (fun _ _ _ => rfl), PairsIn.keep HV.out (fun _ hs => .inl hs) (fun _ _ ho _ _ => ho), Touch.refl _ _⟩
  case round =>
    obtain ⟨k, hk, rfl, dv, HR, HVR, ht⟩ := hrel
    have hblk := HR.out.blk
    obtain ⟨⟨c0, c1, c2, c3, c4, c5, c6, c7, c8⟩, hf, hltr⟩ := cells9 hblk
    dsimp only at c0 c1 c2 c3 c4 c5 c6 c7 c8
    by_cases hkl : k < L
    · obtain ⟨p, hp⟩ : ∃ p, l[k]? = some p := ⟨_, List.getElem?_eq_getElem (by have := HL.out; omega)⟩
      obtain ⟨b, rfl, hblt, q0, q1⟩ := HVR.out.cells hp
      obtain ⟨A2, cp2, rfl, hl2, hc2⟩ := HR.out.dir.sl
      have hlen : (rputs s.dir (l.take k)).length ≤ 1099511627776 := by
        have := rputs_len (l.take k) s.dir
        rw [List.length_take] at this
        omega
      have HSET : Hid (∀ nq, Calls Try.prog 47 #[.slice A2 (rputs s.dir (l.take k)).length cp2, .string p.1, .int .i64 p.2] (wr.drewN nq) (GivesEnts (wr.drewN nq) (rset (rputs s.dir (l.take k)) p.1 p.2))) := fun nq =>
        set_ok (Grow S w) _ _ p.1 p.2 (wr.drewN nq) (PairsIn.keep HR.out.dir (fun _ hs => hs) (fun _ _ ho _ _ => ho)) hlen
      have HP := Lib.hid hp
      have HEQ : Hid (rputs s.dir (l.take (k + 1)) = rset (rputs s.dir (l.take k)) p.1 p.2) := by
        show _ = _
        rw [List.take_add_one, hp]
        unfold rputs
        rw [List.foldl_append]
        rfl
      have HBLK := Lib.hid hblk
      have i1 : (0 : Int) ≤ (k : Int) := by omega
      have i2 : (k : Int) < (L : Int) := by omega
      clear hp hblk
      go_wp2_with fail
      go_region_with (go_at_call 47; refine (HSET.out 1).mono ?_; rintro e w1 ⟨v1, rfl, hv1, hb1⟩; obtain ⟨A3, cp3, ev1, _, _⟩ := EntsIn.sl hv1; subst ev1; have hbw : Below wr.heap.size wr w1 := ⟨hb1.os, hb1.tape, hb1.output, hb1.size, hb1.block⟩; have HV1 := Lib.hid hv1; clear hv1; have hblk1 := below_heap hb1 HBLK.out; obtain ⟨⟨z0, z1, z2, z3, z4, z5, z6, z7, z8⟩, zf, zlt⟩ := cells9 hblk1)
      all_goals
        go_wp2_with fail
        go_roundw
        case rel =>
          refine ⟨k + 1, by omega, by go_num, .slice A3 (rset (rputs s.dir (l.take k)) p.1 p.2).length cp3, ?_, ?_, ?_⟩
          · show RDiskRep _ _ _ _ _
            rw [HEQ.out]
            exact (rset_round HR.out hbw HV1.out (fun j hj => .inr (Nat.le_trans ht.size hj)) (by rw [← HEQ.out]; exact rputs_in _ (fun p hp => HIN.out p (List.mem_of_mem_take hp)) _ H0.out.inD)).keep (fun _ hs => hs) (fun _ _ _ => rfl)
          · exact PairsIn.keep HVR.out (fun _ hs => hs) (fun j o ho hs he => by
              have hne : j ≠ db := fun e => by
                subst e
                rw [HBLK.out] at ho
                cases ho
                cases he
              have h1 : (w1.setCell ⟨db, 2, none⟩ (.slice A3 (rset (rputs s.dir (l.take k)) p.1 p.2).length cp3)).heap[j]? = some o := by
                rw [Below.heap_setCell _ _ _ _ (by exact hne)]
                exact below_heap hbw ho
              exact h1)
          · have h1 : Touch S w (w1.setCell ⟨db, 2, none⟩ (.slice A3 (rset (rputs s.dir (l.take k)) p.1 p.2).length cp3)) := (ht.trans (Touch.of_below (w := wr) (w' := w1) hbw)).set1 db 2 (.inl H0.out.sdb) _
            exact h1.mono (fun _ _ hs => hs)
        case measure => simp [intOf]; omega
    · obtain rfl : k = L := by omega
      have HEQ : Hid (rputs s.dir (l.take k) = rputs s.dir l) := by show _ = _; rw [List.take_of_length_le (by have := HL.out; omega)]
      have HBLK := Lib.hid hblk
      have hrow := HR.out.wait
      dsimp only at hrow
      have HROW := Lib.hid hrow
      have hne := own_ne hrow hblk (by simp [et])
      clear hblk hrow
      go_wp2_with (at_builtin; refine wpList_append_lies _ rfl _ _ 54 rfl 0 53 i0 _ 1 24 Try.underlying54 HI.out hz0 hz1 hz2 rfl (by decide) r.wv s.wait.length r.wvs rfl (HROW.out.alloc _) ⟨wr.heap.size, 0, none⟩ 1 1 [.slice A k c] rfl rfl (cell_one_new _ _ _) (by simp [Value.oneCell']) (by omega) (by unfold maxLen; omega) (by omega) (Nat.zero_le _) _ (by rfl) ?_; intro g2 cap2 w2 hown2 hg2 hat2 hlt2; have hblk2 := grown_heap hg2 (alloc_heap HBLK.out _) hne; obtain ⟨⟨y0, y1, y2, y3, y4, y5, y6, y7, y8⟩, yf, yl⟩ := cells9 hblk2)
      go_end0
      refine ⟨rfl, ?_, ?_⟩
      · have h1 := HR.out
        rw [HEQ.out] at h1
        have hl0 := HVR.out
        exact ⟨_, (RDiskRep.waitTurn h1 hl0 HIN.out (fun j hj => .inr (Nat.le_trans ht.size hj)) hg2 hown2 (hat2.imp id (fun e => e.trans (World.size_alloc _ _)))).keep (fun _ hs => hs) (fun _ _ _ => rfl)⟩
      · have h1 := ((ht.alloc (.cells #[.slice A k c] 53)).grownBy hg2 (fun j e => HR.out.waitS j e)).set1 db 4 (.inl H0.out.sdb) (.slice (some ⟨g2, 0, .none⟩) (s.wait.length + 1) cap2)
        exact h1
end Go.Proofs.Ythdncdhgnoggkaa
