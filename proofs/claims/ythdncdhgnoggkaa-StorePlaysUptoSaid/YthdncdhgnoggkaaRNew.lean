/-
  The contracts of the reference's New, Create, Dirsync, List.
  Conditions: lists are no longer than Go allows.
-/
import Derived.Test.YthdncdhgnoggkaaROps
import Derived.Test.YthdncdhgnoggkaaList
set_option linter.unusedSimpArgs false
set_option linter.unusedVariables false
namespace Go.Proofs.Ythdncdhgnoggkaa
open Go.RowKit

set_option maxRecDepth 100000 in
set_option maxHeartbeats 2000000 in
theorem rnew_bad (room : Int) (w : World) (h : ¬ (0 ≤ room ∧ room ≤ 1073741824)) :
    Calls Try.prog 14 #[.int .i64 room] w fun e w' => e = .returned (.pointer none) ∧ w' = w := by
  by_cases h0 : room < 0
  · go_enter Try.func14, Try.ntmps14
    go_wp2
    go_ret
    exact ⟨rfl, rfl⟩
  · have h1 : 1073741824 < room := by omega
    go_enter Try.func14, Try.ntmps14
    go_wp2
    go_ret
    exact ⟨rfl, rfl⟩
set_option maxRecDepth 100000 in
set_option maxHeartbeats 2000000 in
theorem rnew_ok (room : Int) (w : World) (h : 0 ≤ room ∧ room ≤ 1073741824) :
    Calls Try.prog 14 #[.int .i64 room] w fun e w' => e = .returned (fptr w.heap.size) ∧ RDisk (fun k => w.heap.size ≤ k) w' w.heap.size (rfresh room) ∧ Below w.heap.size w w' := by
  have h0 : ¬ room < 0 := by omega
  have h1 : ¬ 1073741824 < room := by omega
  go_enter Try.func14, Try.ntmps14
  go_wp2
  go_ret
  refine ⟨rfl, ⟨⟨.slice none 0 0, .slice none 0 0, .slice none 0 0, .slice none 0 0, .slice none 0 0, [], []⟩, ?_⟩, (Below.refl _ _).alloc (Nat.le_refl _) _⟩
  exact { sdb := Nat.le_refl _, blk := World.alloc_heap_new w _, rows := ⟨rfl, .inl ⟨rfl, rfl⟩⟩, rowS := fun k e => by simp [Value.ownBlock] at e, files := fun i f h => by simp [rfresh] at h, dir := PairsIn.nil _ _ _, sdir := PairsIn.nil _ _ _,
          wait := ⟨rfl, .inl ⟨rfl, rfl⟩⟩, waitS := fun k e => by simp [Value.ownBlock] at e, waits := fun i l h => by simp [rfresh] at h, plan := PairsIn.nil _ _ _,
          inD := fun p hp => by simp [rfresh] at hp, inS := fun p hp => by simp [rfresh] at hp, inW := fun p hp => by simp [rfresh] at hp }

set_option maxRecDepth 100000 in
set_option maxHeartbeats 4000000 in
theorem rdirsync_ok (S : Nat → Prop) (db : Nat) (s : RDk) (w : World) (h : RDisk S w db s) :
    Calls Try.prog 45 #[fptr db] w fun e w' => e = .returned (.int .i64 (rdirsync s).1) ∧ RAfter S w db (rdirsync s).2 w' := by
  obtain ⟨r, h⟩ := h
  unfold fptr
  have HS := Lib.hid (rstep_ok S db ⟨#[120]⟩ ⟨#[120]⟩ s r w h (by decide) (by decide))
  have hsd := Lib.hid h.sdb
  unfold fptr at HS
  rw [show (okName ⟨#[120]⟩ && okName ⟨#[120]⟩) = true by decide] at HS
  clear h
  by_cases he : (rstep true s).1 = 0
  · have HE : rdirsync s = (0, { (rstep true s).2 with sdir := (rstep true s).2.dir, wait := [] }) := by unfold rdirsync; dsimp only; rw [if_pos he]
    rw [HE]
    rw [he] at HS
    clear HE he
    generalize (rstep true s).2 = s1 at *
    go_enter Try.func45, Try.ntmps45
    go_wp2_with (go_at_call 51; refine HS.out.mono ?_; rintro e w1 ⟨rfl, hd1, ht1⟩; obtain ⟨⟨c0, c1, c2, c3, c4, c5, c6, c7, c8⟩, cf, clt⟩ := cells9 hd1.blk; obtain ⟨Ad, cd, hdv, _, _⟩ := hd1.dir.sl; rw [hdv] at c2; have HDV := Lib.hid hdv; have HD1 := Lib.hid hd1; clear hd1 hdv)
    go_ret
    refine ⟨rfl, ⟨{ r with sv := r.dv, wv := .slice none 0 0, wvs := [] }, ?_⟩, (((rafter_step HD1.out hsd.out ht1).2.set1 db 3 (.inl hsd.out) _).set1 db 4 (.inl hsd.out) _)⟩
    have hd1 := HD1.out
    have hk1 : ∀ k o, w1.heap[k]? = some o → et o ≠ some 56 → ((w1.setCell ⟨db, 3, none⟩ (.slice Ad s1.dir.length cd)).setCell ⟨db, 4, none⟩ (.slice none 0 0)).heap[k]? = some o := fun k o ho he => by
      have hne : k ≠ db := fun e => by
        subst e
        rw [hd1.blk] at ho
        cases ho
        exact he rfl
      rw [Below.heap_setCell _ _ _ _ (by exact hne), Below.heap_setCell _ _ _ _ (by exact hne)]
      exact ho
    have hk2 : ∀ k o, w1.heap[k]? = some o → S k → Still o → ((w1.setCell ⟨db, 3, none⟩ (.slice Ad s1.dir.length cd)).setCell ⟨db, 4, none⟩ (.slice none 0 0)).heap[k]? = some o := fun k o ho _ hs => hk1 k o ho (by rcases hs with e | e | e <;> rw [e] <;> simp)
    exact { sdb := .inl hd1.sdb, blk := by rw [heap_setCell8 (heap_setCell8 hd1.blk 3 _) 4 _, ← HDV.out]; rfl, rows := own_keep hd1.rows (fun k o ho _ he => hk1 k o ho (by rw [he]; simp)), rowS := fun k e => .inl (hd1.rowS k e), files := hd1.filesK (fun _ hs => .inl hs) hk2,
            dir := hd1.dir.keepS (fun _ hs => .inl hs) hk2, sdir := hd1.dir.keepS (fun _ hs => .inl hs) hk2, wait := ⟨rfl, .inl ⟨rfl, rfl⟩⟩, waitS := fun k e => by simp [Value.ownBlock] at e, waits := fun i l h => by simp at h,
            plan := hd1.plan.keepS (fun _ hs => .inl hs) hk2, inD := hd1.inD, inS := hd1.inD, inW := fun l hl => by cases hl }
  · have HE : rdirsync s = rstep true s := by unfold rdirsync; dsimp only; rw [if_neg he]
    rw [HE]
    clear HE
    generalize rstep true s = t at *
    obtain ⟨e0, s1⟩ := t
    dsimp only at *
    have hb : (e0 != 0) = true := by simpa using he
    clear he
    go_enter Try.func45, Try.ntmps45
    go_wp2_with (go_at_call 51; refine HS.out.mono ?_; rintro e w1 ⟨rfl, hd1, ht1⟩)
    go_ret
    exact ⟨rfl, rafter_step hd1 hsd.out ht1⟩

theorem info93 : (Try.prog.info? 93).map (fun i => (i.zero, i.size, i.bytes)) = some (some (.agg #[.slice none 0 0, .slice none 0 0]), 2, 48) := by kernel_rfl
/-- One more file. -/
theorem RDiskRep.addFile {G : Nat → Prop} {wr w2 : World} {db g cap : Nat} {s : RDk} {r : RRep} {o : Obj} (h : RDiskRep G wr db s r) (hG : ∀ k, wr.heap.size ≤ k → G k)
    (hg : (wr.alloc o).grownBy w2 r.lv.ownBlock) (hown : w2.ownsRow 0 93 2 (.slice (some ⟨g, 0, none⟩) (s.files.length + 1) cap) (s.files.length + 1) (flat2 r.fv ++ [.slice none 0 0, .slice none 0 0])) (hat : r.lv.ownBlock = some g ∨ g = wr.heap.size + 1) :
    RDiskRep G (w2.setCell ⟨db, 1, none⟩ (.slice (some ⟨g, 0, none⟩) (s.files.length + 1) cap)) db { s with files := s.files ++ [⟨[], []⟩] } { r with lv := .slice (some ⟨g, 0, none⟩) (s.files.length + 1) cap, fv := r.fv ++ [(.slice none 0 0, .slice none 0 0)] } := by
  have hne := own_ne h.rows h.blk (by simp [et])
  have hblk2 := grown_heap hg (alloc_heap h.blk _) hne
  have hgdb : g ≠ db := fun e => by
    subst e
    rcases hat with e | e
    · exact hne e
    · have := (Array.getElem?_eq_some_iff.1 h.blk).1
      omega
  have hk1 : ∀ k o, wr.heap[k]? = some o → et o ≠ some 56 → et o ≠ some 93 → (w2.setCell ⟨db, 1, none⟩ (.slice (some ⟨g, 0, none⟩) (s.files.length + 1) cap)).heap[k]? = some o := fun k o ho he he2 => by
    rw [Below.heap_setCell _ _ _ _ (by
      intro e
      have e' : k = db := e
      subst e'
      rw [h.blk] at ho
      cases ho
      exact he rfl)]
    exact grown_heap hg (alloc_heap ho _) (own_ne h.rows ho he2)
  have hk2 : ∀ k o, wr.heap[k]? = some o → G k → Still o → (w2.setCell ⟨db, 1, none⟩ (.slice (some ⟨g, 0, none⟩) (s.files.length + 1) cap)).heap[k]? = some o := fun k o ho _ hs => hk1 k o ho (by rcases hs with e | e | e <;> rw [e] <;> simp) (by rcases hs with e | e | e <;> rw [e] <;> simp)
  have hfl := h.fvl
  have hl : (s.files ++ [(⟨[], []⟩ : Fil)]).length = s.files.length + 1 := by simp
  exact { sdb := h.sdb, blk := by rw [heap_setCell8 hblk2]; rfl,
          rows := by
            rw [hl, flat2_append]
            exact own_keep hown (fun k o ho e _ => by
              have e' : g = k := by simpa [Value.ownBlock] using e
              subst e'
              rw [Below.heap_setCell _ _ _ _ (by exact hgdb)]
              exact ho),
          rowS := fun k e => by
            have e' : g = k := by simpa [Value.ownBlock] using e
            subst e'
            rcases hat with e | e
            · exact h.rowS _ e
            · exact hG _ (by omega),
          files := fun i f hf => by
            by_cases hi : i < s.files.length
            · rw [List.getElem?_append_left hi] at hf
              obtain ⟨q, h1, h2, h3⟩ := h.filesK (fun _ hs => hs) hk2 i f hf
              exact ⟨q, by rw [List.getElem?_append_left (List.getElem?_eq_some_iff.1 h1).1]; exact h1, h2, h3⟩
            · have hil := (List.getElem?_eq_some_iff.1 hf).1
              rw [hl] at hil
              have hi' : i = s.files.length := by omega
              subst hi'
              rw [List.getElem?_append_right (Nat.le_refl _), Nat.sub_self] at hf
              cases hf
              exact ⟨_, by rw [List.getElem?_append_right (by omega), hfl, Nat.sub_self]; rfl, BytesIn.nil _ _, BytesIn.nil _ _⟩,
          dir := h.dir.keepS (fun _ hs => hs) hk2, sdir := h.sdir.keepS (fun _ hs => hs) hk2, wait := own_keep h.wait (fun k o ho _ he => hk1 k o ho (by rw [he]; simp) (by rw [he]; simp)), waitS := h.waitS, waits := h.waitsK (fun _ hs => hs) hk2,
          plan := h.plan.keepS (fun _ hs => hs) hk2, inD := fun p hp => by have := h.inD p hp; rw [hl]; omega, inS := fun p hp => by have := h.inS p hp; rw [hl]; omega, inW := fun l hl' p hp => by have := h.inW l hl' p hp; rw [hl]; omega }

set_option maxRecDepth 100000 in
set_option maxHeartbeats 4000000 in
theorem rcreate_ok (S : Nat → Prop) (db : Nat) (s : RDk) (n : ByteArray) (w : World) (N M : Nat) (h : RDisk S w db s) (hn : n.size ≤ 9223372036854775807) (hfit : RFit N M s) (hN : N ≤ 549755813888) :
    Calls Try.prog 23 #[fptr db, .string n] w fun e w' => e = .returned (.int .i64 (rcreate n s).1) ∧ RAfter S w db (rcreate n s).2 w' := by
  obtain ⟨r, h⟩ := h
  unfold fptr
  obtain ⟨i0, hi, hz0, hz1, hz2⟩ := info_parts info93
  have HINF := Lib.hid hi
  have HS := Lib.hid (rstep_ok S db n n s r w h hn hn)
  have hsd := Lib.hid h.sdb
  have hf1 := rfit_step hfit (okName n)
  unfold fptr at HS
  rw [Bool.and_self] at HS
  clear h hi
  by_cases he : (rstep (okName n) s).1 = 0
  · by_cases hc : rfind (rstep (okName n) s).2.dir n = none ∧ 8 ≤ (rstep (okName n) s).2.dir.length
    · have HE : rcreate n s = (3, (rstep (okName n) s).2) := by unfold rcreate; dsimp only; rw [if_pos he, if_pos hc]
      rw [HE]
      rw [he] at HS
      obtain ⟨hc1, hc2⟩ := hc
      have HAT : Hid (∀ w1, RDiskRep S w1 db (rstep (okName n) s).2 r → Calls Try.prog 52 #[r.dv, .string n] w1 fun e w' => e = .returned (.int .i64 (-1)) ∧ w' = w1) := fun w1 hd => at_none S r.dv _ n w1 hd.dir hc1
      clear HE he hc1
      generalize (rstep (okName n) s).2 = s1 at *
      go_enter Try.func23, Try.ntmps23
      go_wp2_with (first | (go_at_call 51; refine HS.out.mono ?_; rintro e w1 ⟨rfl, hd1, ht1⟩; obtain ⟨⟨c0, c1, c2, c3, c4, c5, c6, c7, c8⟩, cf, clt⟩ := cells9 hd1.blk; obtain ⟨Ad, cd, hdv, _, _⟩ := hd1.dir.sl; have hat := HAT.out w1 hd1; rw [hdv] at c2 hat; have HDV := Lib.hid hdv; have HD1 := Lib.hid hd1; clear hd1 hdv) | (go_at_call 52; refine hat.mono ?_; rintro e w2 ⟨rfl, rfl⟩))
      go_ret
      exact ⟨rfl, rafter_step HD1.out hsd.out ht1⟩
    · have HE : rcreate n s = (0, rchange [(n, ((rstep (okName n) s).2.files.length : Int))] { (rstep (okName n) s).2 with files := (rstep (okName n) s).2.files ++ [⟨[], []⟩] }) := by unfold rcreate; dsimp only; rw [if_pos he, if_neg hc]
      rw [HE]
      rw [he] at HS
      cases hfd : rfind (rstep (okName n) s).2.dir n with
      | none =>
        have HAT : Hid (∀ w1, RDiskRep S w1 db (rstep (okName n) s).2 r → Calls Try.prog 52 #[r.dv, .string n] w1 fun e w' => e = .returned (.int .i64 (-1)) ∧ w' = w1) := fun w1 hd => at_none S r.dv _ n w1 hd.dir hfd
        have hlen : (rstep (okName n) s).2.dir.length < 8 := by
          rw [hfd] at hc
          simpa using hc
        clear HE he hc hfd
        generalize (rstep (okName n) s).2 = s1 at *
        have hnd := hf1.nd
        have hnf := hf1.nf
        have hnw := hf1.nw
        go_enter Try.func23, Try.ntmps23
        go_wp2_with (first | (go_at_call 51; refine HS.out.mono ?_; rintro e w1 ⟨rfl, hd1, ht1⟩; obtain ⟨⟨c0, c1, c2, c3, c4, c5, c6, c7, c8⟩, cf, clt⟩ := cells9 hd1.blk; obtain ⟨Ad, cd, hdv, _, _⟩ := hd1.dir.sl; have hat := HAT.out w1 hd1; rw [hdv] at c2 hat; have HDV := Lib.hid hdv; have HD1 := Lib.hid hd1; clear hd1 hdv) | (go_at_call 52; refine hat.mono ?_; rintro e w2 ⟨rfl, rfl⟩; clear hat) | (at_builtin; refine wpList_append_lies _ rfl _ _ 52 rfl 0 93 i0 _ 2 48 Try.underlying52 HINF.out hz0 hz1 hz2 rfl (by decide) r.lv s1.files.length (flat2 r.fv) rfl (HD1.out.rows.alloc _) ⟨w2.heap.size, 0, none⟩ 1 1 [.slice none 0 0, .slice none 0 0] rfl rfl (cells_new2 _ _ _ _) (by simp [Value.oneCell']) (by omega) (by unfold maxLen; omega) (by omega) (Nat.zero_le _) _ (by rfl) ?_; intro g3 cap3 w3 hown3 hg3 hat3 hlt3; have hrep3 := HD1.out.keep (S' := Grow S w) (fun _ hs => .inl hs) (fun _ _ _ => rfl); have hr3 := RDiskRep.addFile hrep3 (fun k hk => .inr (Nat.le_trans ht1.size hk)) hg3 hown3 (hat3.imp id (fun e => e.trans (World.size_alloc _ _))); have ht3 := (((rafter_step HD1.out hsd.out ht1).2.alloc (.cells #[.slice none 0 0, .slice none 0 0] 93)).grownBy hg3 (fun k e => .inl (HD1.out.rowS k e))).set1 db 1 (.inl hsd.out) (.slice (some ⟨g3, 0, none⟩) (s1.files.length + 1) cap3); have hblk3 := grown_heap hg3 (alloc_heap HD1.out.blk _) (own_ne HD1.out.rows HD1.out.blk (by simp [et])); obtain ⟨⟨z0, z1, z2, z3, z4, z5, z6, z7, z8⟩, zf, zlt⟩ := cells9 hblk3))
        have ha : RAfter S w db { s1 with files := s1.files ++ [⟨[], []⟩] } (w3.setCell ⟨db, 1, none⟩ (.slice (some ⟨g3, 0, none⟩) (s1.files.length + 1) cap3)) := ⟨⟨_, hr3⟩, ht3⟩
        have hsz : (w3.setCell ⟨db, 1, none⟩ (.slice (some ⟨g3, 0, none⟩) (s1.files.length + 1) cap3)).heap.size = w3.heap.size := by simp
        have hch := rchange_call (l := [(n, (s1.files.length : Int))]) (ha.alloc (.cells #[.string n, .int .i64 (s1.files.length : Int)] 91)) (ents_one _ n s1.files.length (fun k hk => .inr (Nat.le_trans ha.2.size hk)) (0, 0)) (by simp; omega) (by simp; omega) (fun p hp => by rw [List.mem_singleton.1 hp]; simp; omega)
        rw [hsz] at hch
        refine hch.mono ?_
        rintro e w5 ⟨rfl, h5⟩
        clear hsz hch
        have H5 := Lib.hid h5
        clear ha hr3 ht3 h5
        go_wp2
        go_ret
        exact ⟨rfl, H5.out⟩
      | some f =>
        have HAT : Hid (∀ w1, RDiskRep S w1 db (rstep (okName n) s).2 r → Calls Try.prog 52 #[r.dv, .string n] w1 (AtI (rstep (okName n) s).2.dir n f w1)) := fun w1 hd => at_some S r.dv _ n f w1 hd.dir hfd
        clear HE he hc hfd
        generalize (rstep (okName n) s).2 = s1 at *
        have hnd := hf1.nd
        have hnf := hf1.nf
        have hnw := hf1.nw
        go_enter Try.func23, Try.ntmps23
        go_wp2_with (first | (go_at_call 51; refine HS.out.mono ?_; rintro e w1 ⟨rfl, hd1, ht1⟩; obtain ⟨⟨c0, c1, c2, c3, c4, c5, c6, c7, c8⟩, cf, clt⟩ := cells9 hd1.blk; obtain ⟨Ad, cd, hdv, _, _⟩ := hd1.dir.sl; have hat := HAT.out w1 hd1; rw [hdv] at c2 hat; have HDV := Lib.hid hdv; have HD1 := Lib.hid hd1; clear hd1 hdv) | (go_at_call 52; refine hat.mono ?_; rintro e w2 ⟨i, rfl, hi, rfl⟩; have HI2 := Lib.hid hi; clear hat hi) | (at_builtin; refine wpList_append_lies _ rfl _ _ 52 rfl 0 93 i0 _ 2 48 Try.underlying52 HINF.out hz0 hz1 hz2 rfl (by decide) r.lv s1.files.length (flat2 r.fv) rfl (HD1.out.rows.alloc _) ⟨w2.heap.size, 0, none⟩ 1 1 [.slice none 0 0, .slice none 0 0] rfl rfl (cells_new2 _ _ _ _) (by simp [Value.oneCell']) (by omega) (by unfold maxLen; omega) (by omega) (Nat.zero_le _) _ (by rfl) ?_; intro g3 cap3 w3 hown3 hg3 hat3 hlt3; have hrep3 := HD1.out.keep (S' := Grow S w) (fun _ hs => .inl hs) (fun _ _ _ => rfl); have hr3 := RDiskRep.addFile hrep3 (fun k hk => .inr (Nat.le_trans ht1.size hk)) hg3 hown3 (hat3.imp id (fun e => e.trans (World.size_alloc _ _))); have ht3 := (((rafter_step HD1.out hsd.out ht1).2.alloc (.cells #[.slice none 0 0, .slice none 0 0] 93)).grownBy hg3 (fun k e => .inl (HD1.out.rowS k e))).set1 db 1 (.inl hsd.out) (.slice (some ⟨g3, 0, none⟩) (s1.files.length + 1) cap3); have hblk3 := grown_heap hg3 (alloc_heap HD1.out.blk _) (own_ne HD1.out.rows HD1.out.blk (by simp [et])); obtain ⟨⟨z0, z1, z2, z3, z4, z5, z6, z7, z8⟩, zf, zlt⟩ := cells9 hblk3))
        have ha : RAfter S w db { s1 with files := s1.files ++ [⟨[], []⟩] } (w3.setCell ⟨db, 1, none⟩ (.slice (some ⟨g3, 0, none⟩) (s1.files.length + 1) cap3)) := ⟨⟨_, hr3⟩, ht3⟩
        have hsz : (w3.setCell ⟨db, 1, none⟩ (.slice (some ⟨g3, 0, none⟩) (s1.files.length + 1) cap3)).heap.size = w3.heap.size := by simp
        have hch := rchange_call (l := [(n, (s1.files.length : Int))]) (ha.alloc (.cells #[.string n, .int .i64 (s1.files.length : Int)] 91)) (ents_one _ n s1.files.length (fun k hk => .inr (Nat.le_trans ha.2.size hk)) (0, 0)) (by simp; omega) (by simp; omega) (fun p hp => by rw [List.mem_singleton.1 hp]; simp; omega)
        rw [hsz] at hch
        refine hch.mono ?_
        rintro e w5 ⟨rfl, h5⟩
        clear hsz hch
        have H5 := Lib.hid h5
        clear ha hr3 ht3 h5
        go_wp2
        go_ret
        exact ⟨rfl, H5.out⟩
  · have HE : rcreate n s = rstep (okName n) s := by unfold rcreate; dsimp only; rw [if_neg he]
    rw [HE]
    clear HE
    generalize rstep (okName n) s = t at *
    obtain ⟨e0, s1⟩ := t
    dsimp only at *
    have hb : (e0 != 0) = true := by simpa using he
    clear he
    go_enter Try.func23, Try.ntmps23
    go_wp2_with (go_at_call 51; refine HS.out.mono ?_; rintro e w1 ⟨rfl, hd1, ht1⟩)
    go_ret
    exact ⟨rfl, rafter_step hd1 hsd.out ht1⟩
end Go.Proofs.Ythdncdhgnoggkaa
