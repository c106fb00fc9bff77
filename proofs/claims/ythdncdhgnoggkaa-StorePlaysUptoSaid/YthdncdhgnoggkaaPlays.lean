/-
  The contract of quirelaw22.StorePlays: true, whatever comes.
  Conditions: what comes can be read; at most 2^20 operations, bytes, faults.
-/
import Derived.Test.YthdncdhgnoggkaaPlaysMid
import Derived.Deep.DeepCutAuto
import Derived.Deep.CutBlock
import Derived.Deep.LoopGhost
import Derived.Deep.RegionHeld3
import Derived.Deep.DrawnRows
set_option linter.unusedSimpArgs false
set_option linter.unusedVariables false
namespace Go.Proofs.Ythdncdhgnoggkaa
open Go.RowKit
attribute [local go_sem ↓] Go.wp_at_zero Go.wp_at_succ

structure OpR where
  kind : Int
  n : Int
  path : ByteArray
  dv : Value
  data : List Int
  ka : Option Addr
  kn : Nat
  kc : Nat
  kept : List Int
  pa : Option Addr
  pn : Nat
  pc : Nat
  plan : List (Int × Int)
def OpR.cells (q : OpR) : Array Value := #[.int .i64 q.kind, .int .i64 q.n, .string q.path, q.dv, .slice q.ka q.kn q.kc, .slice q.pa q.pn q.pc]
structure OpOk (w : World) (q : OpR) : Prop where
  src : Src w q.dv q.data
  ints : IntsAt w q.ka q.kn q.kept
  faults : FaultsAt w q.pa q.plan
  pl : q.plan.length = q.pn
  pz : q.pa = none → q.pc = 0
  path : q.path.size ≤ 1048576
  data : q.data.length ≤ 1048576
  pn : q.pn ≤ 1048576
  n64 : -9223372036854775808 ≤ q.n ∧ q.n ≤ 9223372036854775807
def OpsAt (w : World) (A : Option Addr) (ops : List OpR) : Prop :=
  ∀ (j : Nat) (q : OpR), ops[j]? = some q → OpOk w q ∧ ∃ b o, A = some ⟨b, o, none⟩ ∧ ∀ i, i < 6 → w.cell? ⟨b, o + j * 6 + i, none⟩ = q.cells[i]?

theorem two_start {w w1 w2 : World} {db1 db2 : Nat} {room : Int} (h1 : Disk (fun k => w.heap.size ≤ k) w1 db1 (fresh room)) (hb1 : Below w.heap.size w w1) (h2 : RDisk (fun k => w1.heap.size ≤ k) w2 db2 (rfresh room)) (hb2 : Below w1.heap.size w1 w2) : Two w w2 db1 db2 (fresh room) (rfresh room) :=
  ⟨⟨Trim (fun k => w.heap.size ≤ k) w1, Trim (fun k => w1.heap.size ≤ k) w2, h1.trim.below hb2, h2.trim, fun j hj => ⟨hj.1, Nat.lt_of_lt_of_le hj.2 hb2.size, fun hs => by have : w1.heap.size ≤ j := hs.1; have := hj.2; omega⟩, fun j hj => ⟨Nat.le_trans hb1.size hj.1, hj.2⟩⟩, hb1.trans (hb2.mono hb1.size)⟩
theorem cells6 {w : World} {b : Nat} {a0 a1 a2 a3 a4 a5 : Value} {t : TypeId} (h : w.heap[b]? = some (.cells #[a0, a1, a2, a3, a4, a5] t (0, 0))) :
    (w.cell? ⟨b, 0, none⟩ = some a0 ∧ w.cell? ⟨b, 1, none⟩ = some a1 ∧ w.cell? ⟨b, 2, none⟩ = some a2 ∧ w.cell? ⟨b, 3, none⟩ = some a3 ∧ w.cell? ⟨b, 4, none⟩ = some a4 ∧ w.cell? ⟨b, 5, none⟩ = some a5) ∧ b < w.heap.size := by
  refine ⟨?_, (Array.getElem?_eq_some_iff.1 h).1⟩
  simp [World.cell?, h]

set_option maxRecDepth 100000 in
set_option maxHeartbeats 4000000 in
theorem plays_bad (room : Int) (v : Value) (w : World) (h : ¬ (0 ≤ room ∧ room ≤ 1073741824)) :
    Calls Try.prog 4 #[.int .i64 room, v] w fun e w' => e = .returned (.bool true) ∧ Below w.heap.size w w' := by
  have HN := Lib.hid (new_bad room w h)
  have HR := Lib.hid (rnew_bad room w h)
  have HA : Hid (∀ w2, Calls Try.prog 6 #[] w2 fun e w' => e = .returned (.bool true) ∧ Below w2.heap.size w2 w') := alive_ok
  go_enter Try.func4, Try.ntmps4
  go_wp2_with (first | (go_at_call 7; refine HN.out.mono ?_; rintro e w1 ⟨rfl, hw⟩; subst hw) | (go_at_call 14; refine HR.out.mono ?_; rintro e w2 ⟨rfl, hw⟩; subst hw) | (go_at_call 6; refine (HA.out _).mono ?_; rintro e w3 ⟨rfl, hb3⟩))
  go_ret
  exact ⟨rfl, hb3⟩

set_option maxRecDepth 100000 in
set_option maxHeartbeats 4000000 in
theorem plays_good (room : Int) (A : Option Addr) (n c : Nat) (ops : List OpR) (w : World) (h : 0 ≤ room ∧ room ≤ 1073741824) (ho : OpsAt w A ops) (hn : ops.length = n) (hl : n ≤ 1048576) :
    Calls Try.prog 4 #[.int .i64 room, .slice A n c] w fun e w' => e = .returned (.bool true) ∧ Below w.heap.size w w' := by
  have HN := Lib.hid (new_ok room w h)
  have HR : Hid (∀ w1 : World, Calls Try.prog 14 #[.int .i64 room] w1 fun e w' => e = .returned (fptr w1.heap.size) ∧ RDisk (fun k => w1.heap.size ≤ k) w' w1.heap.size (rfresh room) ∧ Below w1.heap.size w1 w') := fun w1 => rnew_ok room w1 h
  have HA : Hid (∀ w2, Calls Try.prog 6 #[] w2 fun e w' => e = .returned (.bool true) ∧ Below w2.heap.size w2 w') := alive_ok
  have HO := Lib.hid ho
  have HNN := Lib.hid hn
  unfold fptr at HN HR
  clear ho hn
  obtain ⟨db1, hdb1⟩ : ∃ d, w.heap.size + 2 = d := ⟨_, rfl⟩
  have HZ0 := Lib.hid (sizes_fresh room h)
  rw [hdb1] at HN
  clear hdb1 h
  go_enter Try.func4, Try.ntmps4
  go_wp2_with (first | (go_at_call 7; refine HN.out.mono ?_; rintro e w1 ⟨rfl, hd1, hb1⟩; have HR1 := HR.out w1; obtain ⟨db2, hdb2⟩ : ∃ d, w1.heap.size = d := ⟨_, rfl⟩; rw [hdb2] at HR1; have HDB := Lib.hid hdb2; clear hdb2) | (go_at_call 14; refine HR1.mono ?_; rintro e w2 ⟨rfl, hd2, hb2⟩; have HT := Lib.hid (two_start hd1 hb1 (by rw [HDB.out]; exact hd2) (by rw [HDB.out]; exact hb2)); clear hd1 hb1 hd2 hb2 HDB))
  clear HN HR
  go_loopg [8] n (fun g i wr => ∃ k : Nat, k ≤ n ∧ g = n - k ∧ i = .int .i64 k ∧ ∃ s t, Hid (Two w wr db1 db2 s t) ∧ Hid (Sizes k s t))
  case atStart => exact ⟨0, Nat.zero_le _, rfl, rfl, _, _, HT, HZ0⟩
  case round =>
    clear HT HZ0
    obtain ⟨k, hk, rfl, rfl, s, t, HT, HZ⟩ := hrel
    by_cases hkn : k < n
    · obtain ⟨q, hq⟩ : ∃ q, ops[k]? = some q := ⟨_, List.getElem?_eq_getElem (by have := HNN.out; omega)⟩
      obtain ⟨hok, b, o, rfl, hc⟩ := HO.out k q hq
      have hbw := HT.out.below
      have hc2 : ∀ i, i < 6 → wr.cell? ⟨b, o + k * 6 + i, none⟩ = q.cells[i]? := fun i hi => by
        have h1 := hc i hi
        have hv : ∃ u, q.cells[i]? = some u := ⟨_, Array.getElem?_eq_getElem (by exact hi)⟩
        obtain ⟨u, hu⟩ := hv
        rw [hu] at h1 ⊢
        exact (hbw.cell (World.block_lt_of_cell? _ _ h1)).trans h1
      obtain ⟨kind, nn, path, dv, data, ka, kn, kc, kept, pa, pn, pc, plan⟩ := q
      obtain ⟨Ad, cd, hdv, _⟩ := hok.src.len
      dsimp only at hdv
      subst hdv
      have z0 := hc2 0 (by omega)
      have z1 := hc2 1 (by omega)
      have z2 := hc2 2 (by omega)
      have z3 := hc2 3 (by omega)
      have z4 := hc2 4 (by omega)
      have z5 := hc2 5 (by omega)
      simp only [OpR.cells, Nat.add_zero] at z0 z1 z2 z3 z4 z5
      replace z0 : wr.cell? ⟨b, o + k * 6, none⟩ = some (.int .i64 kind) := z0
      replace z1 : wr.cell? ⟨b, o + k * 6 + 1, none⟩ = some (.int .i64 nn) := z1
      replace z2 : wr.cell? ⟨b, o + k * 6 + 2, none⟩ = some (.string path) := z2
      replace z3 : wr.cell? ⟨b, o + k * 6 + 3, none⟩ = some (.slice Ad data.length cd) := z3
      replace z4 : wr.cell? ⟨b, o + k * 6 + 4, none⟩ = some (.slice ka kn kc) := z4
      replace z5 : wr.cell? ⟨b, o + k * 6 + 5, none⟩ = some (.slice pa pn pc) := z5
      have HOK := Lib.hid hok
      have i1 : (0 : Int) ≤ (k : Int) := by omega
      have i2 : (k : Int) < (n : Int) := by omega
      clear hc hc2 hok hq hbw
      go_upto_block 2 with fail
      have HB0 := Lib.hid (HT.out.next (.cells #[.int .i64 kind, .int .i64 nn, .string path, .slice Ad data.length cd, .slice ka kn kc, .slice pa pn pc] 43))
      obtain ⟨wa, hwa⟩ : ∃ wa, wr.alloc (.cells #[.int .i64 kind, .int .i64 nn, .string path, .slice Ad data.length cd, .slice ka kn kc, .slice pa pn pc] 43) = wa := ⟨_, rfl⟩
      obtain ⟨bx, hbx⟩ : ∃ bx, wr.heap.size = bx := ⟨_, rfl⟩
      obtain ⟨ob, hob⟩ : ∃ ob, Obj.cells #[.int .i64 kind, .int .i64 nn, .string path, .slice Ad data.length cd, .slice ka kn kc, .slice pa pn pc] 43 (0, 0) = ob := ⟨_, rfl⟩
      rw [hwa, hbx]
      rw [hwa, hbx, hob] at HB0
      have HBX : Hid (∀ (W : World) (s' : Dk) (t' : RDk), Both w W db1 db2 bx ob s' t' → (W.cell? ⟨bx, 0, none⟩ = some (.int .i64 kind) ∧ W.cell? ⟨bx, 1, none⟩ = some (.int .i64 nn) ∧ W.cell? ⟨bx, 2, none⟩ = some (.string path) ∧ W.cell? ⟨bx, 3, none⟩ = some (.slice Ad data.length cd) ∧ W.cell? ⟨bx, 4, none⟩ = some (.slice ka kn kc) ∧ W.cell? ⟨bx, 5, none⟩ = some (.slice pa pn pc)) ∧ bx < W.heap.size) := fun W s' t' hB => cells6 (by have := hB.box; rw [← hob] at this; exact this)
      clear z0 z1 z2 z3 z4 z5 hwa hbx hob HT
      have hk20 : k ≤ 1048576 := by omega
      go_cut [10, 11] (fun a b wx => ∃ z s' t', a = .int .i64 z ∧ b = .int .i64 z ∧ Hid (Both w wx db1 db2 bx ob s' t') ∧ Hid (Sizes (k + 1) s' t'))
      case first =>
        obtain ⟨⟨x0, x1, x2, x3, x4, x5⟩, xl⟩ := HBX.out _ _ _ HB0.out
        by_cases k1 : kind = 1
        · have hb1 : (kind == 1) = true := by simpa using k1
          have C1 := Lib.hid (bsave1 HB0.out.drew HZ.out hk20 path _ data HOK.out.src HOK.out.path HOK.out.data)
          have C2 : Hid (∀ W s', Both w W db1 db2 bx ob s' t → Calls Try.prog 15 #[.pointer (some ⟨db2, 0, none⟩), .string path, .slice Ad data.length cd] W fun e w' => e = .returned (.int .i64 (rsave path data t).1) ∧ Both w w' db1 db2 bx ob s' (rsave path data t).2) := fun W s' hB => bsave2 hB HZ.out hk20 path _ data HOK.out.src HOK.out.path HOK.out.data
          obtain ⟨e1, hz1⟩ := HZ.out.save hk20 path data HOK.out.data
          rw [e1] at C2
          have HZ1 := Lib.hid hz1
          clear k1 e1 hz1
          go_wp2_with fail
          go_region_held3 (fun w' => w'.cell? ⟨bx, 2, none⟩ = some (.string path) ∧ w'.cell? ⟨bx, 3, none⟩ = some (.slice Ad data.length cd))
            (first | go_keep)
            (first
              | ((go_at_call 8; refine C1.out.mono ?_; rintro e w5 ⟨rfl, h5⟩; obtain ⟨⟨y0, y1, y2, y3, y4, y5⟩, yl⟩ := HBX.out _ _ _ h5; have H5 := Lib.hid h5; clear h5))
              | ((go_at_call 15; refine (C2.out _ _ H5.out).mono ?_; rintro e w6 ⟨rfl, h6⟩; obtain ⟨⟨v0, v1, v2, v3, v4, v5⟩, vl⟩ := HBX.out _ _ _ h6; have H6 := Lib.hid h6; clear h6)))
          go_wp2_with fail
          go_meet
          exact ⟨_, _, _, rfl, rfl, H6, HZ1⟩
        · have n1 : (kind == 1) = false := by simpa using k1
          by_cases k2 : kind = 2
          · have hb2 : (kind == 2) = true := by simpa using k2
            obtain ⟨⟨z1, o1, s1⟩, hl1⟩ : ∃ r, load path s = r := ⟨_, rfl⟩
            obtain ⟨⟨z2, o2, t2⟩, hl2⟩ : ∃ r, rload path t = r := ⟨_, rfl⟩
            obtain ⟨e1, e2, hz1⟩ := HZ.out.load hk20 path
            have hld := bload HB0.out HZ.out hk20 path HOK.out.path
            rw [hl1, hl2] at e1 e2 hz1 hld
            dsimp only at e1 e2 hz1 hld
            subst e1 e2
            have HLD := Lib.hid hld
            have HZ1 := Lib.hid hz1
            clear hl1 hl2 hld hz1 k2
            go_wp2_with (first | (go_at_call 11; refine HLD.out.mono ?_; rintro e w5 ⟨A5, c5, rfl, h5, hld2⟩; obtain ⟨⟨y0, y1, y2, y3, y4, y5⟩, yl⟩ := HBX.out _ _ _ h5; clear h5) | (go_at_call 16; refine hld2.mono ?_; rintro e w6 ⟨v6, rfl, hv6, hu6, h6⟩; dsimp only at hv6 h6; obtain ⟨A6, c6, ev6, _⟩ := hv6.len; subst ev6; have hsm := same_ok _ _ _ _ w6 hu6 hv6; rw [decide_eq_true rfl] at hsm; have H6 := Lib.hid h6; clear h6 hv6 hu6) | (go_at_call 13; refine hsm.mono ?_; rintro e w7 ⟨rfl, hw7⟩; subst hw7))
            go_meet
            exact ⟨_, _, _, rfl, rfl, H6, HZ1⟩
          · have n2 : (kind == 2) = false := by simpa using k2
            by_cases k3 : kind = 3
            · have hb3 : (kind == 3) = true := by simpa using k3
              have C1 := Lib.hid (brecover1 HB0.out.drew HZ.out hk20 path HOK.out.path)
              have C2 : Hid (∀ W s', Both w W db1 db2 bx ob s' t → Calls Try.prog 17 #[.pointer (some ⟨db2, 0, none⟩), .string path] W fun e w' => e = .returned (.int .i64 (rrecover path t).1) ∧ Both w w' db1 db2 bx ob s' (rrecover path t).2) := fun W s' hB => brecover2 hB HZ.out hk20 path HOK.out.path
              obtain ⟨e1, hz1⟩ := HZ.out.recover hk20 path
              rw [e1] at C2
              have HZ1 := Lib.hid hz1
              clear k3 e1 hz1
              go_wp2_with fail
              go_region_held3 (fun w' => w'.cell? ⟨bx, 2, none⟩ = some (.string path))
                (first | go_keep)
                (first
                  | ((go_at_call 10; refine C1.out.mono ?_; rintro e w5 ⟨rfl, h5⟩; obtain ⟨⟨y0, y1, y2, y3, y4, y5⟩, yl⟩ := HBX.out _ _ _ h5; have H5 := Lib.hid h5; clear h5))
                  | ((go_at_call 17; refine (C2.out _ _ H5.out).mono ?_; rintro e w6 ⟨rfl, h6⟩; obtain ⟨⟨v0, v1, v2, v3, v4, v5⟩, vl⟩ := HBX.out _ _ _ h6; have H6 := Lib.hid h6; clear h6)))
              go_wp2_with fail
              go_meet
              exact ⟨_, _, _, rfl, rfl, H6, HZ1⟩
            · have n3 : (kind == 3) = false := by simpa using k3
              by_cases k4 : kind = 4
              · have hb4 : (kind == 4) = true := by simpa using k4
                have C1 := Lib.hid (bboot1 HB0.out ka kn kc kept HOK.out.ints nn HOK.out.n64)
                have C2 : Hid (∀ W s', Both w W db1 db2 bx ob s' t → Calls Try.prog 18 #[.pointer (some ⟨db2, 0, none⟩), .int .i64 nn, .slice ka kn kc] W fun e w' => e = .returned (.tuple #[]) ∧ Both w w' db1 db2 bx ob s' (rboot nn kept t)) := fun W s' hB => bboot2 hB HZ.out hk20 ka kn kc kept HOK.out.ints nn HOK.out.n64
                have HZ1 := Lib.hid (HZ.out.boot nn kept)
                clear k4
                go_wp2_with (first | (go_at_call 9; refine C1.out.mono ?_; rintro e w5 ⟨rfl, h5⟩; obtain ⟨⟨y0, y1, y2, y3, y4, y5⟩, yl⟩ := HBX.out _ _ _ h5; have H5 := Lib.hid h5; clear h5) | (go_at_call 18; refine (C2.out _ _ H5.out).mono ?_; rintro e w6 ⟨rfl, h6⟩; have H6 := Lib.hid h6; clear h6))
                go_meet
                exact ⟨_, _, _, rfl, rfl, H6, HZ1⟩
              · have n4 : (kind == 4) = false := by simpa using k4
                by_cases k5 : kind = 5
                · have hb5 : (kind == 5) = true := by simpa using k5
                  have C0 : Hid (Calls Try.prog 20 #[.slice pa pn pc] wa.drew (GivesFaults wa.drew plan)) := plan_ok pa pn pc plan wa.drew (HOK.out.faults.below HB0.out.drew.below) HOK.out.pl (by have := HOK.out.pn; dsimp only at this; omega)
                  have C1 : Hid (∀ W v base, Both w W db1 db2 bx ob s t → W.ownsRow base 95 2 v plan.length (faultCells plan) → Calls Try.prog 19 #[.pointer (some ⟨db1, 0, none⟩), v] W (Armed w db1 db2 bx ob s t plan)) := fun W v base hB hr => barm1 hB HZ.out hk20 plan hr (by have := HOK.out.pn; have := HOK.out.pl; dsimp only at *; omega)
                  have C2 : Hid (∀ W s', Both w W db1 db2 bx ob s' t → Calls Try.prog 21 #[.pointer (some ⟨db2, 0, none⟩), .slice pa pn pc] W fun e w' => e = .returned (.int .i64 (rarm plan t).1) ∧ Both w w' db1 db2 bx ob s' (rarm plan t).2) := fun W s' hB => barm2 hB pa pn pc plan HOK.out.faults HOK.out.pl HOK.out.pn HOK.out.pz
                  clear k5
                  go_wp2_with fail
                  go_region_held3 (fun w' => w'.cell? ⟨bx, 5, none⟩ = some (.slice pa pn pc))
                    (first | go_keep)
                    (first
                      | ((go_at_call 20; refine C0.out.mono ?_; rintro e w4 ⟨v4, rfl, hr4, hb4⟩; have h4 := HB0.out.drew.still hb4; obtain ⟨⟨u0, u1, u2, u3, u4, u5⟩, ul⟩ := HBX.out _ _ _ h4; have H4 := Lib.hid h4; have HR4 := Lib.hid hr4; clear h4 hr4 hb4))
                      | ((go_at_call 19; refine (C1.out _ _ _ H4.out HR4.out).mono ?_; rintro e w5 ⟨s5, z5, rfl, h5, he5, hz5⟩; obtain ⟨⟨y0, y1, y2, y3, y4, y5⟩, yl⟩ := HBX.out _ _ _ h5; have H5 := Lib.hid h5; have HE5 := Lib.hid he5; have HZ5 := Lib.hid hz5; clear h5 he5 hz5))
                      | ((go_at_call 21; refine (C2.out _ _ H5.out).mono ?_; rintro e w6 ⟨rfl, h6⟩; rw [HE5.out]; obtain ⟨⟨v0, v1, v2, v3, v4, v5⟩, vl⟩ := HBX.out _ _ _ h6; have H6 := Lib.hid h6; clear h6)))
                  go_wp2_with fail
                  go_meet
                  exact ⟨_, _, _, rfl, rfl, H6, HZ5.out k HZ.out hk20⟩
                · have n5 : (kind == 5) = false := by simpa using k5
                  by_cases k6 : kind = 6
                  · have hb6 : (kind == 6) = true := by simpa using k6
                    have C1 := Lib.hid (bcreate1 HB0.out.drew HZ.out hk20 path HOK.out.path)
                    have C2 : Hid (∀ W s', Both w W db1 db2 bx ob s' t → Calls Try.prog 23 #[.pointer (some ⟨db2, 0, none⟩), .string path] W fun e w' => e = .returned (.int .i64 (rcreate path t).1) ∧ Both w w' db1 db2 bx ob s' (rcreate path t).2) := fun W s' hB => bcreate2 hB HZ.out hk20 path HOK.out.path
                    obtain ⟨e1, hz1⟩ := HZ.out.create hk20 path
                    rw [e1] at C2
                    have HZ1 := Lib.hid hz1
                    clear k6 e1 hz1
                    go_wp2_with fail
                    go_region_held3 (fun w' => w'.cell? ⟨bx, 2, none⟩ = some (.string path))
                      (first | go_keep)
                      (first
                        | ((go_at_call 22; refine C1.out.mono ?_; rintro e w5 ⟨rfl, h5⟩; obtain ⟨⟨y0, y1, y2, y3, y4, y5⟩, yl⟩ := HBX.out _ _ _ h5; have H5 := Lib.hid h5; clear h5))
                        | ((go_at_call 23; refine (C2.out _ _ H5.out).mono ?_; rintro e w6 ⟨rfl, h6⟩; obtain ⟨⟨v0, v1, v2, v3, v4, v5⟩, vl⟩ := HBX.out _ _ _ h6; have H6 := Lib.hid h6; clear h6)))
                    go_wp2_with fail
                    go_meet
                    exact ⟨_, _, _, rfl, rfl, H6, HZ1⟩
                  · have n6 : (kind == 6) = false := by simpa using k6
                    have HZ1 := Lib.hid HZ.out.idle
                    clear k1 k2 k3 k4 k5 k6
                    go_wp2_with fail
                    go_meet
                    exact ⟨_, _, _, rfl, rfl, HB0, HZ1⟩
      case rest =>
        obtain ⟨z, s1, t1, rfl, rfl, HB1, HZ1⟩ := hcut
        obtain ⟨⟨x0, x1, x2, x3, x4, x5⟩, xl⟩ := HBX.out _ _ _ HB1.out
        obtain ⟨hfit, hgood, hrfit, hsim⟩ := HZ1.out
        have hrd : HB1.out.sets = HB1.out.sets := rfl
        have hdown := hsim.down
        obtain ⟨S1, S2, hd1, ⟨r2, hd2⟩, cc1, cc2⟩ := HB1.out.sets
        have hblk2 := hd2.blk
        rw [hdown] at hblk2
        have HBLK2 := Lib.hid hblk2
        have HDN : Hid (∀ W, Below wc.heap.size wc W → Calls Try.prog 24 #[.pointer (some ⟨db1, 0, none⟩)] W fun e w' => e = .returned (.bool s1.down) ∧ w' = W) := fun W hb => down_ok S1 db1 s1 W (hd1.below hb)
        have HL1 : Hid (∀ W, Below wc.heap.size wc W → Calls Try.prog 12 #[.pointer (some ⟨db1, 0, none⟩)] W (GivesStrs W (listing s1))) := fun W hb => list_ok S1 db1 s1 _ W (hd1.below hb) hgood (by omega)
        have HL2 : Hid (∀ W, Below wc.heap.size wc W → Calls Try.prog 26 #[.pointer (some ⟨db2, 0, none⟩)] W (GivesStrs W (listing s1))) := fun W hb => by
          have k := rlist_ok S2 db2 t1 W (RDisk.below ⟨r2, hd2⟩ hb) (by have := hrfit.nd; omega)
          rw [sim_names hsim] at k
          exact k
        have HNM : Hid (∀ b1 b2 v1 v2 W, StrRow b1 W v1 (listing s1) → StrRow b2 W v2 (listing s1) → Calls Try.prog 25 #[v1, v2] W fun e w' => e = .returned (.bool true) ∧ ∃ n, w' = W.drewN n) := fun b1 b2 v1 v2 W h1 h2 => by
          have k := names_ok b1 b2 v1 v2 _ _ W h1 h2
          rw [decide_eq_true rfl] at k
          exact k
        have HR1 : Hid (∀ W, Calls Try.prog 27 #[.string path] W fun e w' => e = .returned (.bool (right path)) ∧ Below W.heap.size W w') := fun W => right_ok path W (by have := HOK.out.path; dsimp only at this; omega)
        have HR2 : Hid (∀ W, Calls Try.prog 28 #[.string path] W fun e w' => e = .returned (.bool (right path)) ∧ w' = W) := fun W => rright_ok path W (by have := HOK.out.path; dsimp only at this; omega)
        have hd8 : wc.cell? ⟨db2, 8, none⟩ = some (.bool s1.down) := (cells9 hblk2).1.2.2.2.2.2.2.2.2
        have hdl2 := (cells9 hblk2).2.2
        clear hfit hgood hrfit hsim hd1 hd2 cc1 cc2 hblk2 hdown hrd
        have hzz : (z == z) = true := by simp
        obtain ⟨DN, hdn⟩ : ∃ d, s1.down = d := ⟨_, rfl⟩
        obtain ⟨RT, hrt⟩ : ∃ d, right path = d := ⟨_, rfl⟩
        rw [hdn] at HDN hd8
        rw [hrt] at HR1 HR2
        have HBE := Lib.hid (below_drewN wc 0)
        have HBD : Hid (Below wc.heap.size wc wc.drew) := ⟨rfl, rfl, rfl, Nat.le_refl _, fun _ _ => rfl⟩
        clear hdn hrt
        cases DN <;> cases RT
        · go_wp2_with fail
          go_region_held3 (fun w' => w'.cell? ⟨db2, 8, none⟩ = some (.bool false) ∧ w'.cell? ⟨bx, 2, none⟩ = some (.string path))
            (first | go_keep)
            (first
              | ((go_at_call 24; refine (HDN.out _ HBD.out).mono ?_; rintro e w4 ⟨rfl, hw4⟩; subst hw4))
              | ((go_at_call 12; refine (HL1.out _ HBD.out).mono ?_; rintro e w5 ⟨v5, rfl, hr5, hb5⟩; have hbb5 : Below wc.heap.size wc w5 := HBD.out.trans hb5; obtain ⟨A5, c5, ev5, _, _⟩ := StrRow.cells hr5; have HR5 := Lib.hid hr5; have y8 := (hbb5.cell (World.block_lt_of_cell? _ _ hd8)).trans hd8; have y2 := (hbb5.cell (World.block_lt_of_cell? _ _ x2)).trans x2; clear hr5; subst ev5))
              | ((go_at_call 26; refine (HL2.out _ hbb5).mono ?_; rintro e w6 ⟨v6, rfl, hr6, hb6⟩; have hbb6 : Below wc.heap.size wc w6 := hbb5.trans (hb6.mono hbb5.size); obtain ⟨A6, c6, ev6, _, _⟩ := StrRow.cells hr6; subst ev6; have HNM6 := Lib.hid (HNM.out _ _ _ _ w6 (own_keep HR5.out (fun k o ho _ _ => below_heap hb6 ho)) hr6); have u8 := (hbb6.cell (World.block_lt_of_cell? _ _ hd8)).trans hd8; have u2 := (hbb6.cell (World.block_lt_of_cell? _ _ x2)).trans x2; clear hr6))
              | ((go_at_call 25; refine HNM6.out.mono ?_; rintro e w7 ⟨rfl, n7, hw7⟩; subst hw7))
              | ((go_at_call 27; refine (HR1.out _).mono ?_; rintro e w8 ⟨rfl, hb8⟩; have hbb8 : Below wc.heap.size wc w8 := (hbb6.trans ((below_drewN w6 _).mono hbb6.size)).trans (hb8.mono hbb6.size); have p8 := (hbb8.cell (World.block_lt_of_cell? _ _ hd8)).trans hd8; have p2 := (hbb8.cell (World.block_lt_of_cell? _ _ x2)).trans x2))
              | ((go_at_call 28; refine (HR2.out _).mono ?_; rintro e w9 ⟨rfl, hw9⟩; subst hw9)))
          go_wp2_with fail
          go_roundg (n - (k + 1))
          case measure => go_light; omega
          case rel => go_light; exact ⟨k + 1, by omega, rfl, by simp, s1, t1, (HB1.out.still hbb8).two, HZ1⟩
        · go_wp2_with fail
          go_region_held3 (fun w' => w'.cell? ⟨db2, 8, none⟩ = some (.bool false) ∧ w'.cell? ⟨bx, 2, none⟩ = some (.string path))
            (first | go_keep)
            (first
              | ((go_at_call 24; refine (HDN.out _ HBD.out).mono ?_; rintro e w4 ⟨rfl, hw4⟩; subst hw4))
              | ((go_at_call 12; refine (HL1.out _ HBD.out).mono ?_; rintro e w5 ⟨v5, rfl, hr5, hb5⟩; have hbb5 : Below wc.heap.size wc w5 := HBD.out.trans hb5; obtain ⟨A5, c5, ev5, _, _⟩ := StrRow.cells hr5; have HR5 := Lib.hid hr5; have y8 := (hbb5.cell (World.block_lt_of_cell? _ _ hd8)).trans hd8; have y2 := (hbb5.cell (World.block_lt_of_cell? _ _ x2)).trans x2; clear hr5; subst ev5))
              | ((go_at_call 26; refine (HL2.out _ hbb5).mono ?_; rintro e w6 ⟨v6, rfl, hr6, hb6⟩; have hbb6 : Below wc.heap.size wc w6 := hbb5.trans (hb6.mono hbb5.size); obtain ⟨A6, c6, ev6, _, _⟩ := StrRow.cells hr6; subst ev6; have HNM6 := Lib.hid (HNM.out _ _ _ _ w6 (own_keep HR5.out (fun k o ho _ _ => below_heap hb6 ho)) hr6); have u8 := (hbb6.cell (World.block_lt_of_cell? _ _ hd8)).trans hd8; have u2 := (hbb6.cell (World.block_lt_of_cell? _ _ x2)).trans x2; clear hr6))
              | ((go_at_call 25; refine HNM6.out.mono ?_; rintro e w7 ⟨rfl, n7, hw7⟩; subst hw7))
              | ((go_at_call 27; refine (HR1.out _).mono ?_; rintro e w8 ⟨rfl, hb8⟩; have hbb8 : Below wc.heap.size wc w8 := (hbb6.trans ((below_drewN w6 _).mono hbb6.size)).trans (hb8.mono hbb6.size); have p8 := (hbb8.cell (World.block_lt_of_cell? _ _ hd8)).trans hd8; have p2 := (hbb8.cell (World.block_lt_of_cell? _ _ x2)).trans x2))
              | ((go_at_call 28; refine (HR2.out _).mono ?_; rintro e w9 ⟨rfl, hw9⟩; subst hw9)))
          go_wp2_with fail
          go_roundg (n - (k + 1))
          case measure => go_light; omega
          case rel => go_light; exact ⟨k + 1, by omega, rfl, by simp, s1, t1, (HB1.out.still hbb8).two, HZ1⟩
        · go_wp2_with fail
          go_region_held3 (fun w' => w'.cell? ⟨db2, 8, none⟩ = some (.bool true) ∧ w'.cell? ⟨bx, 2, none⟩ = some (.string path))
            (first | go_keep)
            (first
              | ((go_at_call 24; refine (HDN.out _ HBD.out).mono ?_; rintro e w4 ⟨rfl, hw4⟩; subst hw4))
              | ((go_at_call 12; refine (HL1.out _ HBD.out).mono ?_; rintro e w5 ⟨v5, rfl, hr5, hb5⟩; have hbb5 : Below wc.heap.size wc w5 := HBD.out.trans hb5; obtain ⟨A5, c5, ev5, _, _⟩ := StrRow.cells hr5; have HR5 := Lib.hid hr5; have y8 := (hbb5.cell (World.block_lt_of_cell? _ _ hd8)).trans hd8; have y2 := (hbb5.cell (World.block_lt_of_cell? _ _ x2)).trans x2; clear hr5; subst ev5))
              | ((go_at_call 26; refine (HL2.out _ hbb5).mono ?_; rintro e w6 ⟨v6, rfl, hr6, hb6⟩; have hbb6 : Below wc.heap.size wc w6 := hbb5.trans (hb6.mono hbb5.size); obtain ⟨A6, c6, ev6, _, _⟩ := StrRow.cells hr6; subst ev6; have HNM6 := Lib.hid (HNM.out _ _ _ _ w6 (own_keep HR5.out (fun k o ho _ _ => below_heap hb6 ho)) hr6); have u8 := (hbb6.cell (World.block_lt_of_cell? _ _ hd8)).trans hd8; have u2 := (hbb6.cell (World.block_lt_of_cell? _ _ x2)).trans x2; clear hr6))
              | ((go_at_call 25; refine HNM6.out.mono ?_; rintro e w7 ⟨rfl, n7, hw7⟩; subst hw7))
              | ((go_at_call 27; refine (HR1.out _).mono ?_; rintro e w8 ⟨rfl, hb8⟩; have hbb8 : Below wc.heap.size wc w8 := (hbb6.trans ((below_drewN w6 _).mono hbb6.size)).trans (hb8.mono hbb6.size); have p8 := (hbb8.cell (World.block_lt_of_cell? _ _ hd8)).trans hd8; have p2 := (hbb8.cell (World.block_lt_of_cell? _ _ x2)).trans x2))
              | ((go_at_call 28; refine (HR2.out _).mono ?_; rintro e w9 ⟨rfl, hw9⟩; subst hw9)))
          go_wp2_with fail
          go_roundg (n - (k + 1))
          case measure => go_light; omega
          case rel => go_light; exact ⟨k + 1, by omega, rfl, by simp, s1, t1, (HB1.out.still hbb8).two, HZ1⟩
        · go_wp2_with fail
          go_region_held3 (fun w' => w'.cell? ⟨db2, 8, none⟩ = some (.bool true) ∧ w'.cell? ⟨bx, 2, none⟩ = some (.string path))
            (first | go_keep)
            (first
              | ((go_at_call 24; refine (HDN.out _ HBD.out).mono ?_; rintro e w4 ⟨rfl, hw4⟩; subst hw4))
              | ((go_at_call 12; refine (HL1.out _ HBD.out).mono ?_; rintro e w5 ⟨v5, rfl, hr5, hb5⟩; have hbb5 : Below wc.heap.size wc w5 := HBD.out.trans hb5; obtain ⟨A5, c5, ev5, _, _⟩ := StrRow.cells hr5; have HR5 := Lib.hid hr5; have y8 := (hbb5.cell (World.block_lt_of_cell? _ _ hd8)).trans hd8; have y2 := (hbb5.cell (World.block_lt_of_cell? _ _ x2)).trans x2; clear hr5; subst ev5))
              | ((go_at_call 26; refine (HL2.out _ hbb5).mono ?_; rintro e w6 ⟨v6, rfl, hr6, hb6⟩; have hbb6 : Below wc.heap.size wc w6 := hbb5.trans (hb6.mono hbb5.size); obtain ⟨A6, c6, ev6, _, _⟩ := StrRow.cells hr6; subst ev6; have HNM6 := Lib.hid (HNM.out _ _ _ _ w6 (own_keep HR5.out (fun k o ho _ _ => below_heap hb6 ho)) hr6); have u8 := (hbb6.cell (World.block_lt_of_cell? _ _ hd8)).trans hd8; have u2 := (hbb6.cell (World.block_lt_of_cell? _ _ x2)).trans x2; clear hr6))
              | ((go_at_call 25; refine HNM6.out.mono ?_; rintro e w7 ⟨rfl, n7, hw7⟩; subst hw7))
              | ((go_at_call 27; refine (HR1.out _).mono ?_; rintro e w8 ⟨rfl, hb8⟩; have hbb8 : Below wc.heap.size wc w8 := (hbb6.trans ((below_drewN w6 _).mono hbb6.size)).trans (hb8.mono hbb6.size); have p8 := (hbb8.cell (World.block_lt_of_cell? _ _ hd8)).trans hd8; have p2 := (hbb8.cell (World.block_lt_of_cell? _ _ x2)).trans x2))
              | ((go_at_call 28; refine (HR2.out _).mono ?_; rintro e w9 ⟨rfl, hw9⟩; subst hw9)))
          go_wp2_with fail
          go_roundg (n - (k + 1))
          case measure => go_light; omega
          case rel => go_light; exact ⟨k + 1, by omega, rfl, by simp, s1, t1, (HB1.out.still hbb8).two, HZ1⟩
    · obtain rfl : k = n := by omega
      go_wp2_with (go_at_call 6; refine (HA.out _).mono ?_; rintro e w9 ⟨rfl, hb9⟩)
      go_ret
      exact ⟨rfl, HT.out.below.trans (hb9.mono HT.out.below.size)⟩
end Go.Proofs.Ythdncdhgnoggkaa
