/-
  The contract of quirelaw22.StoreWhole: true, whatever comes.
  Conditions: what comes can be read; at most 2^21 saves and faults.
-/
import Derived.Test.YthdncdhgnoggkaaWholeMid
import Derived.Deep.DeepCutAuto
import Derived.Deep.CutBlock
set_option linter.unusedSimpArgs false
set_option linter.unusedVariables false
namespace Go.Proofs.Ythdncdhgnoggkaa
open Go.RowKit

theorem info22 : (Try.prog.info? 22).map (fun i => (i.zero, i.size, i.bytes)) = some (some (.slice none 0 0), 1, 24) := by kernel_rfl

set_option maxRecDepth 100000 in
set_option maxHeartbeats 4000000 in
theorem whole_ok (A1 : Option Addr) (n1 c1 : Nat) (sv : List (Value × List Int)) (A2 : Option Addr) (n2 c2 : Nat) (xs : List (Int × Int)) (en : Int) (A3 : Option Addr) (n3 c3 : Nat) (kept : List Int) (again : Bool) (w : World)
    (h1 : SavesAt w A1 sv) (hn1 : sv.length = n1) (h2 : FaultsAt w A2 xs) (hn2 : xs.length = n2) (h3 : IntsAt w A3 n3 kept) (hl1 : n1 ≤ 2097152) (hl2 : n2 ≤ 2097152) (hen : -9223372036854775808 ≤ en ∧ en ≤ 9223372036854775807) :
    Calls Try.prog 5 #[.slice A1 n1 c1, .slice A2 n2 c2, .int .i64 en, .slice A3 n3 c3, .bool again] w fun e w' => e = .returned (.bool true) ∧ Below w.heap.size w w' := by
  obtain ⟨i0, hi, hz0, hz1, hz2⟩ := info_parts info22
  have HI := Lib.hid hi
  have HN1 := Lib.hid hn1
  have HS1 := Lib.hid h1
  have HN := Lib.hid (new_ok 1073741824 w (by omega))
  have HA : Hid (∀ w2, Calls Try.prog 6 #[] w2 fun e w' => e = .returned (.bool true) ∧ Below w2.heap.size w2 w') := alive_ok
  have HP : Hid (∀ w2, Below w.heap.size w w2 → Calls Try.prog 20 #[.slice A2 n2 c2] w2 (GivesFaults w2 xs)) := fun w2 hb => plan_ok A2 n2 c2 xs w2 (h2.below hb) hn2 (by omega)
  have HAR : Hid (∀ w2 v base, Disk (fun k => w.heap.size ≤ k) w2 (w.heap.size + 2) (fresh 1073741824) → Below w.heap.size w w2 → w2.ownsRow base 95 2 v xs.length (faultCells xs) → Calls Try.prog 19 #[.pointer (some ⟨w.heap.size + 2, 0, none⟩), v] w2 (ArmW w w2)) := fun w2 v base hd hb hr => arm_whole w w2 v xs hd hb hr (by omega)
  have HB : Hid (∀ w2 v s mv, WDisk w w2 (w.heap.size + 2) v s mv → Calls Try.prog 9 #[.pointer (some ⟨w.heap.size + 2, 0, none⟩), .int .i64 en, .slice A3 n3 c3] w2 fun e w' => e = .returned (.tuple #[]) ∧ WDisk w w' (w.heap.size + 2) v (boot en kept s) mv) := fun w2 v s mv h => wboot h A3 n3 c3 kept h3 en hen
  unfold fptr at HN
  clear hi hn1 h1 hn2 h2 h3 hen
  go_enter Try.func5, Try.ntmps5
  go_wp2_with (first | (go_at_call 7; refine HN.out.mono ?_; rintro e w1 ⟨rfl, hd1, hb1⟩; have hal := HA.out w1) | (go_at_call 6; refine hal.mono ?_; rintro e w2 ⟨rfl, hb2⟩; have hb2' : Below w.heap.size w w2 := hb1.trans (hb2.mono hb1.size); have hpl := HP.out w2 hb2') | (go_at_call 20; refine hpl.mono ?_; rintro e w3 ⟨v, rfl, hr3, hb3⟩; have har := HAR.out w3 v _ (hd1.below (hb2.trans (hb3.mono hb2.size))) (hb2'.trans (hb3.mono hb2'.size)) hr3))
  refine har.mono ?_
  rintro e w4 ⟨hb4, (rfl | ⟨rfl, pl, hd4⟩)⟩
  · go_wp2
    go_ret
    exact ⟨rfl, hb4⟩
  · have hm0 : WMid w sv (w.heap.size + 2) 0 (.slice .none 0 0) w4 { fresh 1073741824 with plan := pl } [] true :=
      { WDisk.made hd4 hb4 with
        inv := inv_fresh _ _
        fit := ⟨Nat.le_refl _, Nat.le_refl _, fun f hf => by simp [fresh] at hf, by simp [fresh]⟩
        good := ⟨Nat.le_refl _, Nat.le_refl _, fun p hp => by simp [fresh] at hp, fun p hp => by simp [fresh] at hp, fun p hp => by simp [fresh] at hp⟩
        sub := fun q hq => by cases hq
        len := Nat.le_refl _ }
    have HM0 := Lib.hid hm0
    clear hm0 hd1 hb1 hal hb2 hb2' hpl hr3 hb3 har hd4
    go_upto_block 0 with fail
    go_cut [13, 14] (fun v13 v14 wc => ∃ k s mv none g c, v13 = .bool none ∧ v14 = .slice g mv.length c ∧ k ≤ n1 ∧ Hid (WMid w sv (w.heap.size + 2) k (.slice g mv.length c) wc s mv none))
    case first =>
      go_wp2_with fail
      go_loopw [13, 14, 15] (fun v13 v14 i wr => ∃ k : Nat, k ≤ n1 ∧ i = .int .i64 k ∧ ∃ s mv none g c, v13 = .bool none ∧ v14 = .slice g mv.length c ∧ Hid (WMid w sv (w.heap.size + 2) k (.slice g mv.length c) wr s mv none)) (fun _ _ i _ => n1 - (intOf i).toNat)
      case atStart => exact ⟨0, Nat.zero_le _, rfl, { fresh 1073741824 with plan := pl }, [], true, .none, 0, rfl, rfl, HM0⟩
      case round =>
        clear HM0
        obtain ⟨k, hk, rfl, s, mv, none, g14, c14, rfl, rfl, HM⟩ := hrel
        have HDN : Hid (Calls Try.prog 24 #[.pointer (some ⟨w.heap.size + 2, 0, .none⟩)] wr fun e w' => e = .returned (.bool s.down) ∧ w' = wr) := by
          obtain ⟨S, h1, _⟩ := HM.out.dsk
          exact down_ok S _ s wr h1
        by_cases hkl : k < n1
        · cases hdn : s.down with
          | true =>
            rw [hdn] at HDN
            clear hdn
            go_wp2_with (go_at_call 24; refine HDN.out.mono ?_; rintro e w5 ⟨rfl, hw5⟩; subst hw5)
            go_meet
            exact ⟨k, s, mv, none, g14, c14, rfl, rfl, hk, HM⟩
          | false =>
            rw [hdn] at HDN
            clear hdn
            obtain ⟨q, hq⟩ : ∃ q, sv[k]? = some q := ⟨_, List.getElem?_eq_getElem (by have := HN1.out; omega)⟩
            have hqm : q ∈ sv := List.mem_of_getElem? hq
            obtain ⟨b, o, rfl, hc⟩ := HS1.out.1 k q hq
            have hc' := (HM.out.below.cell (World.block_lt_of_cell? _ _ hc)).trans hc
            have hsrc := HS1.out.2 q hqm
            obtain ⟨v, data⟩ := q
            dsimp only at hsrc hc'
            obtain ⟨Aq, cq, rfl, hlq⟩ := hsrc.len
            have HSRC := Lib.hid hsrc
            have HC0 := Lib.hid hc
            have HQM := Lib.hid hqm
            clear hq hqm hsrc hc
            by_cases h4 : (4096 : Int) < data.length
            · go_wp2_with (go_at_call 24; refine HDN.out.mono ?_; rintro e w5 ⟨rfl, hw5⟩; subst hw5)
              go_ret
              exact ⟨rfl, HM.out.below⟩
            · have HSV := Lib.hid (wsave HM.out.toWDisk (.slice Aq data.length cq, data) HSRC.out HM.out.fit (by omega) (by omega) (by simp; omega))
              dsimp only at HSV
              have hml := HM.out.len
              by_cases hz : (save nameB data s).1 = 0
              · rw [hz] at HSV
                have HZ := Lib.hid hz
                clear hz
                go_wp2_with (first | (go_at_call 24; refine HDN.out.mono ?_; rintro e w5 ⟨rfl, hw5⟩; subst hw5) | (go_at_call 8; refine HSV.out.mono ?_; rintro e w6 ⟨rfl, hw6⟩; have HW6 := Lib.hid hw6.nil; have hc6 := (HW6.out.below.cell (World.block_lt_of_cell? _ _ HC0.out)).trans HC0.out; have hbs6 := HW6.out.below.size) | (at_builtin; refine wpList_append_lies _ rfl _ _ 60 rfl w.heap.size 22 i0 _ 1 24 Try.underlying60 HI.out hz0 hz1 hz2 rfl (by decide) (.slice .none 0 0) 0 [] rfl (HW6.out.row.alloc _) ⟨w6.heap.size, 0, .none⟩ 1 1 [.slice Aq data.length cq] rfl rfl (cell_one_new _ _ _) (by simp [Value.oneCell']) (by omega) (by unfold maxLen; omega) (by omega) (by simp; omega) _ (by rfl) ?_; intro g2 cap2 w7 hown2 hg2 hat2 hlt2))
                go_roundw
                case rel =>
                  refine ⟨k + 1, by omega, by go_num, (save nameB data s).2, [(.slice Aq data.length cq, data)], false, some ⟨g2, 0, .none⟩, cap2, rfl, by simp, ?_⟩
                  exact HM.out.anew HQM.out (by simp; omega) HZ.out (by simpa using HW6.out.push (.slice Aq data.length cq, data) hg2 hown2 (hat2.imp id (fun e => e.trans (World.size_alloc _ _))))
                case measure => simp [intOf]; omega
              · obtain ⟨z, hzz⟩ : ∃ z, (save nameB data s).1 = z := ⟨_, rfl⟩
                have HZ := Lib.hid hz
                rw [hzz] at HSV hz
                have hzb : (z == 0) = false := by simpa using hz
                clear hz hzz
                go_wp2_with (first | (go_at_call 24; refine HDN.out.mono ?_; rintro e w5 ⟨rfl, hw5⟩; subst hw5) | (go_at_call 8; refine HSV.out.mono ?_; rintro e w6 ⟨rfl, hw6⟩; have HW6 := Lib.hid hw6; have hc6 := (HW6.out.below.cell (World.block_lt_of_cell? _ _ HC0.out)).trans HC0.out; have hbs6 := HW6.out.below.size) | (at_builtin; refine wpList_append_lies _ rfl _ _ 60 rfl w.heap.size 22 i0 _ 1 24 Try.underlying60 HI.out hz0 hz1 hz2 rfl (by decide) (.slice g14 mv.length c14) mv.length (mv.map (·.1)) rfl (HW6.out.row.alloc _) ⟨w6.heap.size, 0, .none⟩ 1 1 [.slice Aq data.length cq] rfl rfl (cell_one_new _ _ _) (by simp [Value.oneCell']) (by omega) (by unfold maxLen; omega) (by omega) (by simp; omega) _ (by rfl) ?_; intro g2 cap2 w7 hown2 hg2 hat2 hlt2))
                go_roundw
                case rel =>
                  refine ⟨k + 1, by omega, by go_num, (save nameB data s).2, mv ++ [(.slice Aq data.length cq, data)], none, some ⟨g2, 0, .none⟩, cap2, rfl, by simp, ?_⟩
                  exact HM.out.next HQM.out (by simp; omega) HZ.out (HW6.out.push (.slice Aq data.length cq, data) hg2 hown2 (hat2.imp id (fun e => e.trans (World.size_alloc _ _))))
                case measure => simp [intOf]; omega
        · go_wp2_with (go_at_call 24; refine HDN.out.mono ?_; rintro e w5 ⟨rfl, hw5⟩; subst hw5)
          go_meet
          exact ⟨k, s, mv, none, g14, c14, rfl, rfl, hk, HM⟩
    case rest =>
      obtain ⟨k, s, mv, nn, g, c, rfl, rfl, hk, HM⟩ := hcut
      clear HM0
      have hbo := HB.out wc _ s mv HM.out.toWDisk
      have HCA := Lib.hid (calm_boot HM.out.inv en kept)
      have HGO := Lib.hid (good_boot HM.out.good en kept)
      cases again with
      | false =>
        go_wp2_with (go_at_call 9; refine hbo.mono ?_; rintro e w5 ⟨rfl, hw5⟩; have hld := Lib.hid (wtell hw5 HCA.out); clear hw5)
        rcases hld.out with ⟨rfl, hl⟩ | ⟨j, q, hj, hl⟩
        · refine hl.mono ?_
          rintro e w7 ⟨u, rfl, hu, hr7, hb7⟩
          obtain ⟨Au, cu, rfl, _⟩ := hu.len
          have HU := Lib.hid hu
          clear hu hr7
          go_wp2
          go_ret
          exact ⟨rfl, hb7⟩
        · refine hl.mono ?_
          rintro e w7 ⟨u, rfl, hu, hr7, hb7⟩
          have hu' : Src w7 u q.2 := hu
          obtain ⟨Au, cu, rfl, _⟩ := hu'.len
          have HU := Lib.hid hu'
          have HR7 := Lib.hid hr7
          have HJ := Lib.hid hj
          have hjl : j < mv.length := (List.getElem?_eq_some_iff.1 hj).1
          have hml := HM.out.len
          clear hu hu' hr7 hj hl hld
          go_wp2_with fail
          go_loop [18] (fun i => ∃ k : Nat, k ≤ j ∧ i = .int .i64 k) (fun i => j - (intOf i).toNat)
          case atStart => exact ⟨0, Nat.zero_le _, rfl⟩
          case round =>
            obtain ⟨m, hm, rfl⟩ := hrel
            have hml2 : m < mv.length := by omega
            obtain ⟨qm, hqm⟩ : ∃ qm, mv[m]? = some qm := ⟨_, List.getElem?_eq_getElem hml2⟩
            obtain ⟨g', rfl, hc⟩ := row_at HR7.out rfl hqm
            have hs7 := Src.below (HS1.out.2 qm (HM.out.sub qm (List.mem_of_getElem? hqm))) hb7
            have HSM := Lib.hid (same_ok _ _ _ _ w7 HU.out hs7)
            obtain ⟨vm, dm⟩ := qm
            dsimp only at HSM hs7 hc
            obtain ⟨Am, cm, rfl, _⟩ := hs7.len
            clear hs7
            by_cases hb : bstr q.2 = bstr dm
            · rw [decide_eq_true hb] at HSM
              clear hb hqm
              go_wp2_with (go_at_call 13; refine HSM.out.mono ?_; rintro e w8 ⟨rfl, hw8⟩; subst hw8)
              go_ret
              exact ⟨rfl, hb7⟩
            · rw [decide_eq_false hb] at HSM
              have hmj : m < j := by
                rcases Nat.lt_or_ge m j with h | h
                · exact h
                · obtain rfl : m = j := by omega
                  have := HJ.out
                  rw [hqm] at this
                  cases this
                  exact absurd rfl hb
              clear hb hqm
              go_wp2_with (go_at_call 13; refine HSM.out.mono ?_; rintro e w8 ⟨rfl, hw8⟩; subst hw8)
              go_round
              case rel => exact ⟨m + 1, by omega, by go_num⟩
              case measure => simp [intOf]; omega
      | true =>
        obtain ⟨hz, hc2⟩ := calm_recover HCA.out
        have HCA2 := Lib.hid hc2
        have HRE : Hid (∀ w2 v mv, WDisk w w2 (w.heap.size + 2) v (boot en kept s) mv → Calls Try.prog 10 #[.pointer (some ⟨w.heap.size + 2, 0, none⟩), .string ⟨#[98]⟩] w2 fun e w' => e = .returned (.int .i64 0) ∧ WDisk w w' (w.heap.size + 2) v (recover nameB (boot en kept s)).2 mv) := fun w2 v mv h => by
          have k := wrecover h HGO.out (by omega) (by show (0 : Nat) ≤ _; omega)
          rw [hz] at k
          exact k
        clear hz hc2 
        go_wp2_with (first | (go_at_call 9; refine hbo.mono ?_; rintro e w5 ⟨rfl, hw5⟩; have hre := HRE.out _ _ _ hw5; clear hw5) | (go_at_call 10; refine hre.mono ?_; rintro e w6 ⟨rfl, hw6⟩; have hld := Lib.hid (wtell hw6 HCA2.out); clear hw6))
        rcases hld.out with ⟨rfl, hl⟩ | ⟨j, q, hj, hl⟩
        · refine hl.mono ?_
          rintro e w7 ⟨u, rfl, hu, hr7, hb7⟩
          obtain ⟨Au, cu, rfl, _⟩ := hu.len
          have HU := Lib.hid hu
          clear hu hr7
          go_wp2
          go_ret
          exact ⟨rfl, hb7⟩
        · refine hl.mono ?_
          rintro e w7 ⟨u, rfl, hu, hr7, hb7⟩
          have hu' : Src w7 u q.2 := hu
          obtain ⟨Au, cu, rfl, _⟩ := hu'.len
          have HU := Lib.hid hu'
          have HR7 := Lib.hid hr7
          have HJ := Lib.hid hj
          have hjl : j < mv.length := (List.getElem?_eq_some_iff.1 hj).1
          have hml := HM.out.len
          clear hu hu' hr7 hj hl hld
          go_wp2_with fail
          go_loop [18] (fun i => ∃ k : Nat, k ≤ j ∧ i = .int .i64 k) (fun i => j - (intOf i).toNat)
          case atStart => exact ⟨0, Nat.zero_le _, rfl⟩
          case round =>
            obtain ⟨m, hm, rfl⟩ := hrel
            have hml2 : m < mv.length := by omega
            obtain ⟨qm, hqm⟩ : ∃ qm, mv[m]? = some qm := ⟨_, List.getElem?_eq_getElem hml2⟩
            obtain ⟨g', rfl, hc⟩ := row_at HR7.out rfl hqm
            have hs7 := Src.below (HS1.out.2 qm (HM.out.sub qm (List.mem_of_getElem? hqm))) hb7
            have HSM := Lib.hid (same_ok _ _ _ _ w7 HU.out hs7)
            obtain ⟨vm, dm⟩ := qm
            dsimp only at HSM hs7 hc
            obtain ⟨Am, cm, rfl, _⟩ := hs7.len
            clear hs7
            by_cases hb : bstr q.2 = bstr dm
            · rw [decide_eq_true hb] at HSM
              clear hb hqm
              go_wp2_with (go_at_call 13; refine HSM.out.mono ?_; rintro e w8 ⟨rfl, hw8⟩; subst hw8)
              go_ret
              exact ⟨rfl, hb7⟩
            · rw [decide_eq_false hb] at HSM
              have hmj : m < j := by
                rcases Nat.lt_or_ge m j with h | h
                · exact h
                · obtain rfl : m = j := by omega
                  have := HJ.out
                  rw [hqm] at this
                  cases this
                  exact absurd rfl hb
              clear hb hqm
              go_wp2_with (go_at_call 13; refine HSM.out.mono ?_; rintro e w8 ⟨rfl, hw8⟩; subst hw8)
              go_round
              case rel => exact ⟨m + 1, by omega, by go_num⟩
              case measure => simp [intOf]; omega
end Go.Proofs.Ythdncdhgnoggkaa
