/-
  The contract of the reference's Boot.
  Conditions: lists are no longer than Go allows; the numbers can be read, and lie elsewhere.
-/
import Derived.Test.YthdncdhgnoggkaaRFit
import Derived.Test.YthdncdhgnoggkaaROps2
import Derived.Deep.DeepCutAuto
import Derived.Deep.CutBlock
set_option linter.unusedSimpArgs false
set_option linter.unusedVariables false
namespace Go.Proofs.Ythdncdhgnoggkaa
open Go.RowKit

def rdirTo (s : RDk) (k : Nat) : RDir := (s.wait.take k).foldl rputs s.sdir
theorem rdirTo_succ {s : RDk} {k : Nat} {l : RDir} (h : s.wait[k]? = some l) : rdirTo s (k + 1) = rputs (rdirTo s k) l := by
  unfold rdirTo
  rw [List.take_add_one, h, List.foldl_append]
  rfl
theorem rputs_succ {d l : RDir} {m : Nat} {p : ByteArray × Int} (h : l[m]? = some p) : rputs d (l.take (m + 1)) = rset (rputs d (l.take m)) p.1 p.2 := by
  unfold rputs
  rw [List.take_add_one, h, List.foldl_append]
  rfl
/-- A change that waits. -/
theorem RDiskRep.waitAt {S : Nat → Prop} {w : World} {db : Nat} {s : RDk} {r : RRep} (h : RDiskRep S w db s r) {k : Nat} {l : RDir} (hk : s.wait[k]? = some l) :
    ∃ g cap A c, r.wv = .slice (some ⟨g, 0, none⟩) s.wait.length cap ∧ g < w.heap.size ∧ w.cell? ⟨g, k, none⟩ = some (.slice A l.length c) ∧ EntsIn S w (.slice A l.length c) l := by
  have hl := (List.getElem?_eq_some_iff.1 hk).1
  obtain ⟨v, hv, he⟩ := h.waits k l hk
  obtain ⟨A, c, rfl, _⟩ := he.sl
  have hrow := h.wait
  rcases hrow.2 with ⟨e, h0⟩ | ⟨g, cap, cur, e, _, hh, _⟩
  · omega
  · rw [e] at hrow
    exact ⟨g, cap, A, c, e, (Array.getElem?_eq_some_iff.1 hh).1, (hrow.cellAt k (by omega)).trans hv, he⟩
theorem RDiskRep.waitSl {S : Nat → Prop} {w : World} {db : Nat} {s : RDk} {r : RRep} (h : RDiskRep S w db s r) : ∃ A c, r.wv = .slice A s.wait.length c := own_slice h.wait
theorem RDiskRep.filesSl {S : Nat → Prop} {w : World} {db : Nat} {s : RDk} {r : RRep} (h : RDiskRep S w db s r) : ∃ A c, r.lv = .slice A s.files.length c := own_slice h.rows

theorem cell_same {w : World} {a : Addr} {x : Value} (h : w.cell? a = some x) (u : Value) : (w.setCell a u).cell? a = some u := by
  obtain ⟨b, o, sp⟩ := a
  have hs : sp = none := World.cell?_spot h
  subst hs
  simp only [World.cell?, World.setCell, Array.getElem?_modify] at h ⊢
  cases hb : w.heap[b]? with
  | none => rw [hb] at h; cases h
  | some ob =>
    rw [hb] at h
    cases ob with
    | cells cs t fr =>
      simp only at h
      have hl := (Array.getElem?_eq_some_iff.1 h).1
      simp [Array.getElem?_setIfInBounds, hl]
    | _ => simp at h
theorem cell_other (w : World) (g o o' : Nat) (h : o ≠ o') (u : Value) : (w.setCell ⟨g, o, none⟩ u).cell? ⟨g, o', none⟩ = w.cell? ⟨g, o', none⟩ := by
  simp only [World.cell?, World.setCell, Array.getElem?_modify]
  cases hb : w.heap[g]? with
  | none => simp
  | some ob => cases ob <;> simp [Array.getElem?_setIfInBounds, h]
theorem frozen_set (w : World) (g o : Nat) (u : Value) (j : Nat) : (w.setCell ⟨g, o, none⟩ u).frozen? ⟨g, j, none⟩ = w.frozen? ⟨g, j, none⟩ := by
  simp only [World.frozen?, World.setCell, Array.getElem?_modify]
  cases hb : w.heap[g]? with
  | none => simp
  | some ob => cases ob <;> simp
theorem heap_set_same {w w' : World} (h : ∀ j : Nat, w.heap[j]? = w'.heap[j]?) {a : Addr} {u : Value} {j : Nat} : (w.setCell a u).heap[j]? = (w'.setCell a u).heap[j]? := by
  unfold World.setCell
  simp only [Array.getElem?_modify]
  rw [h j]
theorem boot_file {G : Nat → Prop} {W : World} {db m g cap : Nat} {s : RDk} {r : RRep} {x : Fil} {v0 v1 u : Value} {ys : List Int} (h : RDiskRep G W db s r) (hx : s.files[m]? = some x) (hlv : r.lv = .slice (some ⟨g, 0, none⟩) s.files.length cap) (hq : r.fv[m]? = some (v0, v1)) (hu : BytesIn G W u ys) :
    RDisk G ((W.setCell ⟨g, m * 2 + 1, none⟩ u).setCell ⟨g, m * 2, none⟩ u) db { s with files := s.files.set m ⟨ys, ys⟩ } := by
  have hml := (List.getElem?_eq_some_iff.1 hq).1
  have hrow := h.rows
  rw [hlv] at hrow
  obtain ⟨hst, hgr⟩ := hrow.stored (m * 2 + 1) u
  rw [← flat2_set1 _ _ _ _ hq] at hst
  obtain ⟨hst2, hgr2⟩ := hst.stored (m * 2) u
  rw [← flat2_set0 (r.fv.set m (v0, u)) m (v0, u) u (List.getElem?_set_self hml), List.set_set] at hst2
  rw [← hlv] at hst2
  have hg : r.lv.ownBlock = some g := by rw [hlv]; rfl
  have hk : ∀ k o, W.heap[k]? = some o → r.lv.ownBlock ≠ some k → ((W.setCell ⟨g, m * 2 + 1, none⟩ u).setCell ⟨g, m * 2, none⟩ u).heap[k]? = some o := fun k o ho hne => grown_heap hgr2 (grown_heap hgr ho (by rw [← hg]; exact hne)) (by rw [← hg]; exact hne)
  have hk2 : ∀ k o, W.heap[k]? = some o → et o ≠ some 93 → ((W.setCell ⟨g, m * 2 + 1, none⟩ u).setCell ⟨g, m * 2, none⟩ u).heap[k]? = some o := fun k o ho he => hk k o ho (own_ne h.rows ho he)
  have hb := hu.keep (w' := (W.setCell ⟨g, m * 2 + 1, none⟩ u).setCell ⟨g, m * 2, none⟩ u) (fun _ hs => hs) (fun k o ho _ he => hk2 k o ho (by rw [he]; simp))
  exact ⟨_, h.fileTurn (fun _ hs => hs) hx hk hst2 hb hb⟩
theorem foldl_rputs_in {N : Nat} (l : List RDir) (hl : ∀ x ∈ l, ∀ p ∈ x, p.2 < (N : Int)) : ∀ d : RDir, (∀ p ∈ d, 0 ≤ p.2 ∧ p.2 < (N : Int)) → ∀ p ∈ l.foldl rputs d, 0 ≤ p.2 ∧ p.2 < (N : Int) := by
  induction l with
  | nil => intro d hd; exact hd
  | cons x l ih =>
    intro d hd
    rw [List.foldl_cons]
    exact ih (fun y hy => hl y (List.mem_cons_of_mem _ hy)) _ (rputs_in x (hl x (by simp)) d hd)
theorem rdirTo_in {S : Nat → Prop} {w : World} {db : Nat} {s : RDk} {r : RRep} (h : RDiskRep S w db s r) (k : Nat) : ∀ p ∈ rdirTo s k, 0 ≤ p.2 ∧ p.2 < (s.files.length : Int) :=
  foldl_rputs_in _ (fun x hx => h.inW x (List.mem_of_mem_take hx)) _ h.inS
theorem boot_end {G : Nat → Prop} {w : World} {db : Nat} {s : RDk} {r : RRep} {fs : List Fil} {v : Value} {D : RDir} (h : RDiskRep G w db { s with files := fs } r) (hv : EntsIn G w v D) (hin : ∀ p ∈ D, 0 ≤ p.2 ∧ p.2 < (fs.length : Int)) :
    RDisk G (((((w.setCell ⟨db, 2, none⟩ v).setCell ⟨db, 3, none⟩ v).setCell ⟨db, 4, none⟩ (.slice none 0 0)).setCell ⟨db, 5, none⟩ (.slice none 0 0)).setCell ⟨db, 8, none⟩ (.bool false)) db { s with files := fs, dir := D, sdir := D, wait := [], plan := [], down := false } := by
  have hk1 : ∀ k o, w.heap[k]? = some o → et o ≠ some 56 → (((((w.setCell ⟨db, 2, none⟩ v).setCell ⟨db, 3, none⟩ v).setCell ⟨db, 4, none⟩ (.slice none 0 0)).setCell ⟨db, 5, none⟩ (.slice none 0 0)).setCell ⟨db, 8, none⟩ (.bool false)).heap[k]? = some o := fun k o ho he => by
    have hne : k ≠ db := fun e => by
      subst e
      rw [h.blk] at ho
      cases ho
      exact he rfl
    rw [Below.heap_setCell _ _ _ _ (by exact hne), Below.heap_setCell _ _ _ _ (by exact hne), Below.heap_setCell _ _ _ _ (by exact hne), Below.heap_setCell _ _ _ _ (by exact hne), Below.heap_setCell _ _ _ _ (by exact hne)]
    exact ho
  have hk2 : ∀ k o, w.heap[k]? = some o → G k → Still o → (((((w.setCell ⟨db, 2, none⟩ v).setCell ⟨db, 3, none⟩ v).setCell ⟨db, 4, none⟩ (.slice none 0 0)).setCell ⟨db, 5, none⟩ (.slice none 0 0)).setCell ⟨db, 8, none⟩ (.bool false)).heap[k]? = some o := fun k o ho _ hs => hk1 k o ho (by rcases hs with e | e | e <;> rw [e] <;> simp)
  exact ⟨{ r with dv := v, sv := v, wv := .slice none 0 0, pv := .slice none 0 0, wvs := [] }, { sdb := h.sdb, blk := (by rw [heap_setCell8 (heap_setCell8 (heap_setCell8 (heap_setCell8 (heap_setCell8 h.blk 2 _) 3 _) 4 _) 5 _) 8 _]; rfl), rows := own_keep h.rows (fun k o ho _ he => hk1 k o ho (by rw [he]; simp)), rowS := h.rowS, files := h.filesK (fun _ hs => hs) hk2, dir := EntsIn.keepS hv (fun _ hs => hs) hk2, sdir := EntsIn.keepS hv (fun _ hs => hs) hk2, wait := ⟨rfl, .inl ⟨rfl, rfl⟩⟩, waitS := fun k e => by simp [Value.ownBlock] at e, waits := fun i l h => by simp at h, plan := PairsIn.nil _ _ _, inD := hin, inS := hin, inW := fun l hl => by cases hl }⟩
set_option maxRecDepth 100000 in
set_option maxHeartbeats 4000000 in
theorem rboot_ok (S : Nat → Prop) (db : Nat) (s : RDk) (en : Int) (A : Option Addr) (n c : Nat) (kept : List Int) (w : World) (N M : Nat) (h : RDisk S w db s) (hk : IntsAt w A n kept) (hkS : ∀ b o, A = some ⟨b, o, none⟩ → 0 < n → ¬ S b)
    (hen : -9223372036854775808 ≤ en ∧ en ≤ 9223372036854775807) (hfit : RFit N M s) (hN : N ≤ 549755813888) :
    Calls Try.prog 18 #[fptr db, .int .i64 en, .slice A n c] w fun e w' => e = .returned (.tuple #[]) ∧ RAfter S w db (rboot en kept s) w' := by
  obtain ⟨r, h⟩ := h
  unfold fptr
  obtain ⟨⟨c0, c1, c2, c3, c4, c5, c6, c7, c8⟩, cf, clt⟩ := cells9 h.blk
  obtain ⟨Aw, cw, hwv⟩ := h.waitSl
  obtain ⟨As, cs, hsv, _, _⟩ := h.sdir.sl
  rw [hwv] at c4
  rw [hsv] at c3
  have HWV := Lib.hid hwv
  have HSV := Lib.hid hsv
  have H0 := Lib.hid h
  have HKK := Lib.hid hk
  have HKS := Lib.hid hkS
  obtain ⟨W, hW⟩ : ∃ W, s.wait.length = W := ⟨_, rfl⟩
  obtain ⟨D0, hD0⟩ : ∃ D0, s.sdir.length = D0 := ⟨_, rfl⟩
  have hWN : W ≤ N := by have := hfit.nw; omega
  rw [hW] at c4
  have HW := Lib.hid hW
  have HFIT := Lib.hid hfit
  clear hwv hsv h hk hkS hW hD0 hfit
  have HBD : Hid (∀ k, (rdirTo s k).length ≤ N) := fun k => rboot_dir HFIT.out k
  go_enter Try.func18, Try.ntmps18
  go_upto_block 0 with fail
  go_cut [6] (fun v6 wc => ∃ A6 c6 : _, v6 = .slice A6 (rdirTo s en.toNat).length c6 ∧ Hid (EntsIn (Grow S w) wc (.slice A6 (rdirTo s en.toNat).length c6) (rdirTo s en.toNat)) ∧ Below w.heap.size w wc)
  case first =>
    go_wp2_with fail
    go_loopw [6, 7, 8] (fun v6 i _ wr => ∃ k : Nat, k ≤ W ∧ (k : Int) ≤ max en 0 ∧ i = .int .i64 k ∧ ∃ A6 c6, v6 = .slice A6 (rdirTo s k).length c6 ∧ Hid (EntsIn (Grow S w) wr (.slice A6 (rdirTo s k).length c6) (rdirTo s k)) ∧ Below w.heap.size w wr) (fun _ i _ _ => W - (intOf i).toNat)
    case atStart => exact ⟨0, Nat.zero_le _, by omega, rfl, As, cs, rfl, by have := H0.out.sdir; rw [HSV.out] at this; exact PairsIn.keep this (fun _ hs => .inl hs) (fun _ _ ho _ _ => ho), Below.refl _ _⟩
    case round =>
      obtain ⟨k, hk, hke, rfl, A6, c6', rfl, HE6, hb⟩ := hrel
      have x4 := (hb.cell (World.block_lt_of_cell? _ _ c4)).trans c4
      by_cases hkW : k < W
      · by_cases hken : (k : Int) < en
        · obtain ⟨l, hl⟩ : ∃ l, s.wait[k]? = some l := ⟨_, List.getElem?_eq_getElem (by have := HW.out; omega)⟩
          obtain ⟨g, cap, Al, cl, hwv2, hg, z0, he⟩ := H0.out.waitAt hl
          rw [HWV.out] at hwv2
          cases hwv2
          have hl2 := HFIT.out.nl l (List.mem_of_getElem? hl)
          have x0 := (hb.cell (World.block_lt_of_cell? _ _ z0)).trans z0
          have HEL := Lib.hid he
          have HLK := Lib.hid hl
          have hbk := HBD.out k
          obtain ⟨ll, hll⟩ : ∃ ll, l.length = ll := ⟨_, rfl⟩
          have HLL := Lib.hid hll
          rw [hll] at x0 hl2 z0
          clear he hl hll
          obtain ⟨wo, rfl⟩ : ∃ wo : World, wo = wr := ⟨_, rfl⟩
          go_wp2_with fail
          go_loopw [6, 8] (fun v6 i2 wi => ∃ m : Nat, m ≤ ll ∧ i2 = .int .i64 m ∧ ∃ A6 c6, v6 = .slice A6 (rputs (rdirTo s k) (l.take m)).length c6 ∧ Hid (EntsIn (Grow S w) wi (.slice A6 (rputs (rdirTo s k) (l.take m)).length c6) (rputs (rdirTo s k) (l.take m))) ∧ Below w.heap.size w wi) (fun _ i2 _ => ll - (intOf i2).toNat)
          case atStart => exact ⟨0, Nat.zero_le _, rfl, A6, c6', rfl, HE6, hb⟩
          case round =>
            clear x0 x4 HE6 hb
            obtain ⟨m, hm, rfl, A7, c7', rfl, HE7, hb⟩ := hrel
            have x4 := (hb.cell (World.block_lt_of_cell? _ _ c4)).trans c4
            have x0 := (hb.cell (World.block_lt_of_cell? _ _ z0)).trans z0
            by_cases hml : m < ll
            · obtain ⟨p, hp⟩ : ∃ p, l[m]? = some p := ⟨_, List.getElem?_eq_getElem (by have := HLL.out; omega)⟩
              obtain ⟨bl, hbl, _, y0, y1⟩ := HEL.out.cells hp
              subst hbl
              have x1 := (hb.cell (World.block_lt_of_cell? _ _ y0)).trans y0
              have x2 := (hb.cell (World.block_lt_of_cell? _ _ y1)).trans y1
              have hlen : (rputs (rdirTo s k) (l.take m)).length ≤ 1099511627776 := by
                have := rputs_len (l.take m) (rdirTo s k)
                rw [List.length_take] at this
                omega
              have HSET : Hid (Calls Try.prog 47 #[.slice A7 (rputs (rdirTo s k) (l.take m)).length c7', .string p.1, .int .i64 p.2] wr.drew (GivesEnts wr.drew (rset (rputs (rdirTo s k) (l.take m)) p.1 p.2))) := set_ok (Grow S w) _ _ p.1 p.2 wr.drew (PairsIn.keep HE7.out (fun _ hs => hs) (fun _ _ ho _ _ => ho)) hlen
              have HEQ := Lib.hid (rputs_succ (d := rdirTo s k) hp)
              have i1 : (0 : Int) ≤ (k : Int) := by omega
              have i2 : (k : Int) < (W : Int) := by omega
              have i3 : (0 : Int) ≤ (m : Int) := by omega
              have i4 : (m : Int) < (ll : Int) := by omega
              clear hp y0 y1
              go_wp2_with fail
              go_still_tail 23, (by kernel_rfl)
              change wpList _ _ _ _ _ wr.drew
              go_wp2_with (go_at_call 47; refine HSET.out.mono ?_; rintro e w1 ⟨v1, rfl, hv1, hb1⟩; obtain ⟨A8, c8', ev1, _, _⟩ := EntsIn.sl hv1; subst ev1; have HV1 := Lib.hid hv1; clear hv1)
              go_roundw
              case rel =>
                refine ⟨m + 1, by omega, by go_num, A8, c8', by rw [HEQ.out], ?_, ?_⟩
                · show EntsIn _ _ _ _
                  rw [HEQ.out]
                  exact PairsIn.keep HV1.out (fun j hj => .inr (Nat.le_trans hb.size hj)) (fun _ _ ho _ _ => ho)
                · exact (hb.drew).trans (hb1.mono hb.size)
              case measure => simp [intOf]; omega
            · obtain rfl : m = ll := by omega
              have HEQ : Hid (rputs (rdirTo s k) (l.take m) = rdirTo s (k + 1)) := by
                show _ = _
                rw [List.take_of_length_le (by have := HLL.out; omega), rdirTo_succ HLK.out]
              go_wp2_with fail
              go_roundw
              case rel =>
                refine ⟨k + 1, by omega, by omega, by go_num, A7, c7', by rw [HEQ.out], ?_, hb⟩
                show EntsIn _ _ _ _
                rw [← HEQ.out]
                exact HE7.out
              case measure => simp [intOf]; omega
        · have HEQ : Hid (rdirTo s k = rdirTo s en.toNat) := by
            show _ = _
            rw [show en.toNat = k by omega]
          go_wp2_with fail
          go_meet
          exact ⟨A6, c6', by rw [HEQ.out], by rw [← HEQ.out]; exact HE6, hb⟩
      · have HEQ : Hid (rdirTo s k = rdirTo s en.toNat) := by
          show _ = _
          unfold rdirTo
          rw [List.take_of_length_le (by have := HW.out; omega), List.take_of_length_le (by have := HW.out; omega)]
        go_wp2_with fail
        go_meet
        exact ⟨A6, c6', by rw [HEQ.out], by rw [← HEQ.out]; exact HE6, hb⟩
  case rest =>
    obtain ⟨A6, c6', rfl, HE6, hb⟩ := hcut
    clear c0 c1 c2 c3 c4 c5 c6 c7 c8 cf
    have hd0 : RDisk (Grow S w) wc db s := ⟨r, (H0.out.below hb).keep (fun _ hs => .inl hs) (fun _ _ _ => rfl)⟩
    have HD0 := Lib.hid hd0
    obtain ⟨F, hF⟩ : ∃ F, s.files.length = F := ⟨_, rfl⟩
    have HF := Lib.hid hF
    have hFN : F ≤ N := by have := HFIT.out.nf; omega
    clear hd0 hF
    obtain ⟨D, hD⟩ : ∃ D, rdirTo s en.toNat = D := ⟨_, rfl⟩
    have HD := Lib.hid hD
    rw [hD] at HE6
    rw [HD.out]
    clear hD
    go_wp2_with fail
    go_loopw [9, 10] (fun i _ wr => ∃ k : Nat, k ≤ F ∧ i = .int .i64 k ∧ Hid (RDisk (Grow S w) wr db { s with files := bootTo kept k s.files }) ∧ Hid (EntsIn (Grow S w) wr (.slice A6 D.length c6') D) ∧ Touch S w wr) (fun i _ _ => F - (intOf i).toNat)
    case atStart => exact ⟨0, Nat.zero_le _, rfl, by rw [bootTo_zero]; exact HD0.out, HE6, Touch.of_below hb⟩
    case round =>
      clear HE6
      obtain ⟨k, hk, rfl, HR, HE6, ht⟩ := hrel
      obtain ⟨r1, hr1⟩ := HR.out
      obtain ⟨⟨c0, c1, c2, c3, c4, c5, c6, c7, c8⟩, cf, clt2⟩ := cells9 hr1.blk
      obtain ⟨Al, cl, hlv0⟩ := hr1.filesSl
      have hlF : ({ s with files := bootTo kept k s.files } : RDk).files.length = F := by rw [← HF.out]; exact bootTo_length _ _ _
      rw [hlF] at hlv0
      rw [hlv0] at c1
      have HR1 := Lib.hid hr1
      have HLF := Lib.hid hlF
      by_cases hkF : k < F
      · obtain ⟨x, hx⟩ : ∃ x, (bootTo kept k s.files)[k]? = some x := ⟨_, List.getElem?_eq_getElem (by have := HLF.out; dsimp only at this; omega)⟩
        obtain ⟨g, cap, q, hlv, hg0, hgd, hgl, hq, y0, y1, gf, b0, b1⟩ := hr1.fileAt hx
        rw [hlF] at hlv
        rw [hlv0] at hlv
        cases hlv
        obtain ⟨v0, v1⟩ := q
        dsimp only at y0 y1 b0 b1
        obtain ⟨A0, e0, ev0⟩ := b0.sl
        subst ev0
        obtain ⟨A1, e1, ev1⟩ := b1.sl
        subst ev1
        have HB0 := Lib.hid b0
        have HB1 := Lib.hid b1
        have HFIN : Hid (∀ (W : World) (u : Value) (m : Nat) (ys : List Int), BytesIn (Grow S w) wr u ys → bootFile kept k x = ⟨ys, ys⟩ → (∀ j : Nat, W.heap[j]? = ((wr.setCell ⟨g, k * 2 + 1, none⟩ u).setCell ⟨g, k * 2, none⟩ u).heap[j]?) → Touch S w W → ∃ k' : Nat, k' ≤ F ∧ Value.int .i64 ((k : Int) + 1) = .int .i64 k' ∧ Hid (RDisk (Grow S w) W db { s with files := bootTo kept k' s.files }) ∧ Hid (EntsIn (Grow S w) W (.slice A6 D.length c6') D) ∧ Touch S w W) := fun W u m ys hu hbf hW htW => by
          refine ⟨k + 1, by omega, by go_num, ?_, ?_, htW⟩
          · show RDisk _ _ _ _
            rw [bootTo_succ kept k s.files x hx, hbf]
            have := boot_file hr1 hx (by rw [hlF]; exact hlv0) hq hu
            exact this.keep (fun _ hs => hs) (fun j _ _ => hW j)
          · exact PairsIn.keep HE6.out (fun _ hs => hs) (fun j o ho _ he => by
              have hne : j ≠ g := fun e => by
                have := own_ne hr1.rows ho (by rw [he]; simp)
                rw [hlv0] at this
                exact this (by rw [e]; rfl)
              rw [hW j, Below.heap_setCell _ _ _ _ (by exact hne), Below.heap_setCell _ _ _ _ (by exact hne)]
              exact ho)
        have HFLO : Hid (∀ (W : World), bootFile kept k x = ⟨x.safe, x.safe⟩ → (∀ j : Nat, W.heap[j]? = (wr.setCell ⟨g, k * 2, none⟩ (.slice A1 x.safe.length e1)).heap[j]?) → Touch S w W → ∃ k' : Nat, k' ≤ F ∧ Value.int .i64 ((k : Int) + 1) = .int .i64 k' ∧ Hid (RDisk (Grow S w) W db { s with files := bootTo kept k' s.files }) ∧ Hid (EntsIn (Grow S w) W (.slice A6 D.length c6') D) ∧ Touch S w W) := fun W hbf hW htW => by
          refine ⟨k + 1, by omega, by go_num, ?_, ?_, htW⟩
          · show RDisk _ _ _ _
            rw [bootTo_succ kept k s.files x hx, hbf]
            have := file_now hr1 hx (by rw [hlF]; exact hlv0) hq HB1.out HB1.out
            exact this.keep (fun _ hs => hs) (fun j _ _ => hW j)
          · exact PairsIn.keep HE6.out (fun _ hs => hs) (fun j o ho _ he => by
              have hne : j ≠ g := fun e => by
                have := own_ne hr1.rows ho (by rw [he]; simp)
                rw [hlv0] at this
                exact this (by rw [e]; rfl)
              rw [hW j, Below.heap_setCell _ _ _ _ (by exact hne)]
              exact ho)
        have hgG : S g ∨ w.heap.size ≤ g := hg0
        have i1 : (0 : Int) ≤ (k : Int) := by omega
        have i2 : (k : Int) < (F : Int) := by omega
        clear b0 b1 hx hq hlv0 hlF hr1
        obtain ⟨wl, rfl⟩ : ∃ wl : World, wl = wr := ⟨_, rfl⟩
        by_cases hkn : k < n
        · have hkR := HKK.out.touch ht HKS.out
          obtain ⟨kb, ko, rfl, hkc⟩ := hkR.2.2 (by omega)
          have hkc2 := hkc k hkn
          obtain ⟨xk, hxk⟩ : ∃ xk, xk = kept.getD k 0 := ⟨_, rfl⟩
          rw [← hxk] at hkc2
          have hkx : kept[k]? = some xk := by
            have hkl4 : k < kept.length := by rw [hkR.1]; exact hkn
            rw [hxk, List.getD_eq_getElem?_getD, List.getElem?_eq_getElem hkl4]
            rfl
          have HKX := Lib.hid hkx
          have i3 : (k : Int) < (n : Int) := by omega
          clear hxk hkc hkR hkx
          by_cases hsx : (x.safe.length : Int) < xk
          · have hb0 := HB0.out
            obtain ⟨A', c', ea, ⟨hz, hlc⟩, hbl, _⟩ := hb0
            cases ea
            by_cases hnx : xk < x.now.length
            · obtain ⟨m, rfl⟩ : ∃ m : Nat, xk = m := ⟨xk.toNat, by omega⟩
              cases A0 with
              | none => have := hz rfl; omega
              | some an =>
                clear hz
                go_wp2_with fail
                go_quiet (fail)
                obtain ⟨W, hW⟩ : ∃ W, wl.drewN nq = W := ⟨_, rfl⟩
                have g0 : W.cell? ⟨kb, ko + k, none⟩ = some (.int .i64 m) := by rw [← hW]; exact hkc2
                have g1 : W.cell? ⟨db, 1, none⟩ = some (.slice (some ⟨g, 0, none⟩) F cl) := by rw [← hW]; exact c1
                have g2 : W.cell? ⟨g, k * 2, none⟩ = some (.slice (some an) x.now.length e0) := by rw [← hW]; exact y0
                have g3 : W.cell? ⟨g, k * 2 + 1, none⟩ = some (.slice A1 x.safe.length e1) := by rw [← hW]; exact y1
                have g4 : ∀ j, W.frozen? ⟨g, j, none⟩ = false := by rw [← hW]; exact gf
                have htW : Touch S w W := by rw [← hW]; exact ht.drewN _
                have HWH : Hid (∀ j : Nat, W.heap[j]? = wl.heap[j]?) := fun j => by rw [← hW]; rfl
                have hdbl : db < W.heap.size := by rw [← hW]; exact clt2
                rw [hW]
                clear hW
                have bz0 : (0 : Int) ≤ (m : Int) := by omega
                have bz1 : (m : Int) ≤ (e0 : Int) := by omega
                go_wp2_with fail
                go_still_tail 17, (by kernel_rfl)
                change wpList _ _ _ _ _ W.drew
                go_wp2_with fail
                obtain ⟨W2, hW2⟩ : ∃ W2, (W.setCell ⟨g, k * 2 + 1, none⟩ (.slice (some an) m e0)).drew = W2 := ⟨_, rfl⟩
                have t1 : W2.cell? ⟨db, 1, none⟩ = some (.slice (some ⟨g, 0, none⟩) F cl) := by rw [← hW2]; exact (World.cell?_of_block (w' := W.setCell ⟨g, k * 2 + 1, none⟩ (.slice (some an) m e0)) (w := W) (Below.heap_setCell _ _ _ _ (by exact Ne.symm hgd))).trans g1
                have t2 : W2.cell? ⟨g, k * 2, none⟩ = some (.slice (some an) x.now.length e0) := by rw [← hW2]; exact (cell_other W g (k * 2 + 1) (k * 2) (by omega) _).trans g2
                have t3 : W2.cell? ⟨g, k * 2 + 1, none⟩ = some (.slice (some an) m e0) := by rw [← hW2]; exact cell_same g3 _
                have t4 : ∀ j, W2.frozen? ⟨g, j, none⟩ = false := fun j => by rw [← hW2]; exact (frozen_set W _ _ _ j).trans (g4 j)
                have htW2 : Touch S w W2 := by rw [← hW2]; exact (htW.set1 g (k * 2 + 1) hgG _).drew
                have HWH2 : Hid (∀ j : Nat, W2.heap[j]? = (wl.setCell ⟨g, k * 2 + 1, none⟩ (.slice (some an) m e0)).heap[j]?) := fun j => by rw [← hW2]; exact heap_set_same (w := W) (w' := wl) HWH.out
                rw [hW2]
                clear hW2
                go_still_tail 15, (by kernel_rfl)
                change wpList _ _ _ _ _ W2.drew
                go_wp2_with fail
                go_roundw
                case rel => exact HFIN.out _ (.slice (some an) m e0) 0 (x.now.take m) (HB0.out.take (by omega)) (bootFile_high HKX.out (by omega) (by omega)) (fun j => heap_set_same (w := W2.drew) (w' := wl.setCell ⟨g, k * 2 + 1, none⟩ (.slice (some an) m e0)) HWH2.out) ((htW2.drew).set1 g (k * 2) hgG _)
                case measure => simp [intOf]; omega
            · cases A0 with
              | none =>
                have hz2 := hz rfl
                clear hz
                subst hz2
                have hz3 : x.now.length = 0 := by omega
                go_wp2_with fail
                go_quiet (fail)
                obtain ⟨W, hW⟩ : ∃ W, wl.drewN nq = W := ⟨_, rfl⟩
                have g0 : W.cell? ⟨kb, ko + k, none⟩ = some (.int .i64 xk) := by rw [← hW]; exact hkc2
                have g1 : W.cell? ⟨db, 1, none⟩ = some (.slice (some ⟨g, 0, none⟩) F cl) := by rw [← hW]; exact c1
                have g2 : W.cell? ⟨g, k * 2, none⟩ = some (.slice none x.now.length 0) := by rw [← hW]; exact y0
                have g3 : W.cell? ⟨g, k * 2 + 1, none⟩ = some (.slice A1 x.safe.length e1) := by rw [← hW]; exact y1
                have g4 : ∀ j, W.frozen? ⟨g, j, none⟩ = false := by rw [← hW]; exact gf
                have htW : Touch S w W := by rw [← hW]; exact ht.drewN _
                have HWH : Hid (∀ j : Nat, W.heap[j]? = wl.heap[j]?) := fun j => by rw [← hW]; rfl
                have hdbl : db < W.heap.size := by rw [← hW]; exact clt2
                rw [hW]
                clear hW
                have bz0 : (0 : Int) ≤ (0 : Int) := by omega
                have bz1 : (0 : Int) ≤ (0 : Int) := by omega
                go_wp2_with fail
                go_still_tail 17, (by kernel_rfl)
                change wpList _ _ _ _ _ W.drew
                go_wp2_with fail
                obtain ⟨W2, hW2⟩ : ∃ W2, (W.setCell ⟨g, k * 2 + 1, none⟩ (.slice none 0 0)).drew = W2 := ⟨_, rfl⟩
                have t1 : W2.cell? ⟨db, 1, none⟩ = some (.slice (some ⟨g, 0, none⟩) F cl) := by rw [← hW2]; exact (World.cell?_of_block (w' := W.setCell ⟨g, k * 2 + 1, none⟩ (.slice none 0 0)) (w := W) (Below.heap_setCell _ _ _ _ (by exact Ne.symm hgd))).trans g1
                have t2 : W2.cell? ⟨g, k * 2, none⟩ = some (.slice none x.now.length 0) := by rw [← hW2]; exact (cell_other W g (k * 2 + 1) (k * 2) (by omega) _).trans g2
                have t3 : W2.cell? ⟨g, k * 2 + 1, none⟩ = some (.slice none 0 0) := by rw [← hW2]; exact cell_same g3 _
                have t4 : ∀ j, W2.frozen? ⟨g, j, none⟩ = false := fun j => by rw [← hW2]; exact (frozen_set W _ _ _ j).trans (g4 j)
                have htW2 : Touch S w W2 := by rw [← hW2]; exact (htW.set1 g (k * 2 + 1) hgG _).drew
                have HWH2 : Hid (∀ j : Nat, W2.heap[j]? = (wl.setCell ⟨g, k * 2 + 1, none⟩ (.slice none 0 0)).heap[j]?) := fun j => by rw [← hW2]; exact heap_set_same (w := W) (w' := wl) HWH.out
                rw [hW2]
                clear hW2
                go_still_tail 15, (by kernel_rfl)
                change wpList _ _ _ _ _ W2.drew
                go_wp2_with fail
                go_roundw
                case rel => exact HFIN.out _ (.slice none 0 0) 0 (x.now.take 0) (by have t := HB0.out.take (m := 0) (by omega); exact t) (bootFile_high HKX.out (by omega) (by omega)) (fun j => heap_set_same (w := W2.drew) (w' := wl.setCell ⟨g, k * 2 + 1, none⟩ (.slice none 0 0)) HWH2.out) ((htW2.drew).set1 g (k * 2) hgG _)
                case measure => simp [intOf]; omega
              | some an =>
                clear hz
                go_wp2_with fail
                go_quiet (fail)
                obtain ⟨W, hW⟩ : ∃ W, wl.drewN nq = W := ⟨_, rfl⟩
                have g0 : W.cell? ⟨kb, ko + k, none⟩ = some (.int .i64 xk) := by rw [← hW]; exact hkc2
                have g1 : W.cell? ⟨db, 1, none⟩ = some (.slice (some ⟨g, 0, none⟩) F cl) := by rw [← hW]; exact c1
                have g2 : W.cell? ⟨g, k * 2, none⟩ = some (.slice (some an) x.now.length e0) := by rw [← hW]; exact y0
                have g3 : W.cell? ⟨g, k * 2 + 1, none⟩ = some (.slice A1 x.safe.length e1) := by rw [← hW]; exact y1
                have g4 : ∀ j, W.frozen? ⟨g, j, none⟩ = false := by rw [← hW]; exact gf
                have htW : Touch S w W := by rw [← hW]; exact ht.drewN _
                have HWH : Hid (∀ j : Nat, W.heap[j]? = wl.heap[j]?) := fun j => by rw [← hW]; rfl
                have hdbl : db < W.heap.size := by rw [← hW]; exact clt2
                rw [hW]
                clear hW
                have bz0 : (0 : Int) ≤ (x.now.length : Int) := by omega
                have bz1 : (x.now.length : Int) ≤ (e0 : Int) := by omega
                go_wp2_with fail
                go_still_tail 17, (by kernel_rfl)
                change wpList _ _ _ _ _ W.drew
                go_wp2_with fail
                obtain ⟨W2, hW2⟩ : ∃ W2, (W.setCell ⟨g, k * 2 + 1, none⟩ (.slice (some an) x.now.length e0)).drew = W2 := ⟨_, rfl⟩
                have t1 : W2.cell? ⟨db, 1, none⟩ = some (.slice (some ⟨g, 0, none⟩) F cl) := by rw [← hW2]; exact (World.cell?_of_block (w' := W.setCell ⟨g, k * 2 + 1, none⟩ (.slice (some an) x.now.length e0)) (w := W) (Below.heap_setCell _ _ _ _ (by exact Ne.symm hgd))).trans g1
                have t2 : W2.cell? ⟨g, k * 2, none⟩ = some (.slice (some an) x.now.length e0) := by rw [← hW2]; exact (cell_other W g (k * 2 + 1) (k * 2) (by omega) _).trans g2
                have t3 : W2.cell? ⟨g, k * 2 + 1, none⟩ = some (.slice (some an) x.now.length e0) := by rw [← hW2]; exact cell_same g3 _
                have t4 : ∀ j, W2.frozen? ⟨g, j, none⟩ = false := fun j => by rw [← hW2]; exact (frozen_set W _ _ _ j).trans (g4 j)
                have htW2 : Touch S w W2 := by rw [← hW2]; exact (htW.set1 g (k * 2 + 1) hgG _).drew
                have HWH2 : Hid (∀ j : Nat, W2.heap[j]? = (wl.setCell ⟨g, k * 2 + 1, none⟩ (.slice (some an) x.now.length e0)).heap[j]?) := fun j => by rw [← hW2]; exact heap_set_same (w := W) (w' := wl) HWH.out
                rw [hW2]
                clear hW2
                go_still_tail 15, (by kernel_rfl)
                change wpList _ _ _ _ _ W2.drew
                go_wp2_with fail
                go_roundw
                case rel => exact HFIN.out _ (.slice (some an) x.now.length e0) 0 (x.now.take x.now.length) (HB0.out.take (Nat.le_refl _)) (bootFile_high HKX.out (by omega) (by omega)) (fun j => heap_set_same (w := W2.drew) (w' := wl.setCell ⟨g, k * 2 + 1, none⟩ (.slice (some an) x.now.length e0)) HWH2.out) ((htW2.drew).set1 g (k * 2) hgG _)
                case measure => simp [intOf]; omega
          · go_wp2_with fail
            go_quiet (fail)
            obtain ⟨W, hW⟩ : ∃ W, wl.drewN nq = W := ⟨_, rfl⟩
            have g1 : W.cell? ⟨db, 1, none⟩ = some (.slice (some ⟨g, 0, none⟩) F cl) := by rw [← hW]; exact c1
            have g2 : W.cell? ⟨g, k * 2, none⟩ = some (.slice A0 x.now.length e0) := by rw [← hW]; exact y0
            have g3 : W.cell? ⟨g, k * 2 + 1, none⟩ = some (.slice A1 x.safe.length e1) := by rw [← hW]; exact y1
            have g4 : ∀ j, W.frozen? ⟨g, j, none⟩ = false := by rw [← hW]; exact gf
            have htW : Touch S w W := by rw [← hW]; exact ht.drewN _
            have HWH : Hid (∀ j : Nat, W.heap[j]? = wl.heap[j]?) := fun j => by rw [← hW]; rfl
            rw [hW]
            clear hW
            go_wp2_with fail
            go_still_tail 15, (by kernel_rfl)
            change wpList _ _ _ _ _ W.drew
            go_wp2_with fail
            go_roundw
            case rel => exact HFLO.out _ (bootFile_low HKX.out (by omega)) (fun j => heap_set_same (w := W.drew) (w' := wl) HWH.out) ((htW.drew).set1 g (k * 2) hgG _)
            case measure => simp [intOf]; omega
        · have i3 : ¬ (k : Int) < (n : Int) := by omega
          have hdc : decide ((k : Int) < (n : Int)) = false := by simp; omega
          go_wp2_with fail
          go_quiet (fail)
          obtain ⟨W, hW⟩ : ∃ W, wl.drewN nq = W := ⟨_, rfl⟩
          have g1 : W.cell? ⟨db, 1, none⟩ = some (.slice (some ⟨g, 0, none⟩) F cl) := by rw [← hW]; exact c1
          have g2 : W.cell? ⟨g, k * 2, none⟩ = some (.slice A0 x.now.length e0) := by rw [← hW]; exact y0
          have g3 : W.cell? ⟨g, k * 2 + 1, none⟩ = some (.slice A1 x.safe.length e1) := by rw [← hW]; exact y1
          have g4 : ∀ j, W.frozen? ⟨g, j, none⟩ = false := by rw [← hW]; exact gf
          have htW : Touch S w W := by rw [← hW]; exact ht.drewN _
          have HWH : Hid (∀ j : Nat, W.heap[j]? = wl.heap[j]?) := fun j => by rw [← hW]; rfl
          rw [hW]
          clear hW
          go_wp2_with fail
          go_still_tail 15, (by kernel_rfl)
          change wpList _ _ _ _ _ W.drew
          go_wp2_with fail
          go_roundw
          case rel => exact HFLO.out _ (bootFile_none (by rw [HKK.out.1]; exact hkn)) (fun j => heap_set_same (w := W.drew) (w' := wl) HWH.out) ((htW.drew).set1 g (k * 2) hgG _)
          case measure => simp [intOf]; omega
      · obtain rfl : k = F := by omega
        have hall : bootTo kept k s.files = s.files.mapIdx (bootFile kept) := by rw [← HF.out]; exact bootTo_all _ _
        have HFIN : Hid (RAfter S w db (rboot en kept s) (((((wr.setCell ⟨db, 2, none⟩ (.slice A6 D.length c6')).setCell ⟨db, 3, none⟩ (.slice A6 D.length c6')).setCell ⟨db, 4, none⟩ (.slice none 0 0)).setCell ⟨db, 5, none⟩ (.slice none 0 0)).setCell ⟨db, 8, none⟩ (.bool false))) := by
          refine ⟨?_, ((((ht.set1 db 2 (.inl H0.out.sdb) _).set1 db 3 (.inl H0.out.sdb) _).set1 db 4 (.inl H0.out.sdb) _).set1 db 5 (.inl H0.out.sdb) _).set1 db 8 (.inl H0.out.sdb) _⟩
          have hin : ∀ p ∈ D, 0 ≤ p.2 ∧ p.2 < ((s.files.mapIdx (bootFile kept)).length : Int) := by
            rw [List.length_mapIdx, ← HD.out]
            exact rdirTo_in H0.out _
          have h1 := HR1.out
          rw [hall] at h1
          have h2 := boot_end h1 HE6.out hin
          have e : rboot en kept s = { s with files := s.files.mapIdx (bootFile kept), dir := D, sdir := D, wait := [], plan := [], down := false } := by
            rw [← HD.out]
            rfl
          rw [e]
          exact h2
        clear hr1 hlv0 hlF hall
        go_wp2_with fail
        go_end0
        exact ⟨rfl, HFIN.out⟩
end Go.Proofs.Ythdncdhgnoggkaa
