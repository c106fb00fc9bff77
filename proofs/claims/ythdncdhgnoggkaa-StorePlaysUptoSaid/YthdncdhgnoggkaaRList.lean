/-
  The contracts of the reference's List, of names, of the reference's Load, Save, Recover.
  Conditions: lists are no longer than Go allows.
-/
import Derived.Test.YthdncdhgnoggkaaRNew
import Derived.Test.YthdncdhgnoggkaaROps2
set_option linter.unusedSimpArgs false
set_option linter.unusedVariables false
namespace Go.Proofs.Ythdncdhgnoggkaa
open Go.RowKit

theorem info9s : (Try.prog.info? 9).map (fun i => (i.zero, i.size, i.bytes)) = some (some (.string ⟨#[]⟩), 1, 16) := by kernel_rfl
theorem encStr_of (p : ByteArray) : encStr p.data.toList = .string p := ((encStr_eq p _).2 rfl).symm
def nameL (s : RDk) : List (List UInt8) := s.dir.map (fun p => p.1.data.toList)

set_option maxRecDepth 100000 in
set_option maxHeartbeats 4000000 in
theorem rlist_ok (S : Nat → Prop) (db : Nat) (s : RDk) (w : World) (h : RDisk S w db s) (hl : s.dir.length ≤ 1099511627776) :
    Calls Try.prog 26 #[fptr db] w (GivesStrs w (rnames s)) := by
  obtain ⟨r, h⟩ := h
  unfold fptr
  obtain ⟨i0, hi, hz0, hz1, hz2⟩ := info_parts info9s
  have HINF := Lib.hid hi
  obtain ⟨⟨c0, c1, c2, c3, c4, c5, c6, c7, c8⟩, cf, clt⟩ := cells9 h.blk
  obtain ⟨Ad, cd, hdv, _, _⟩ := h.dir.sl
  rw [hdv] at c2
  have HDV := Lib.hid hdv
  have HD := Lib.hid h
  clear h hi hdv
  obtain ⟨L, hL⟩ : ∃ L, s.dir.length = L := ⟨_, rfl⟩
  rw [hL] at c2 hl
  have HL := Lib.hid hL
  clear hL
  cases hdn : s.down with
  | true =>
    have HE : rnames s = [] := by simp [rnames, hdn]
    rw [HE]
    rw [hdn] at c8
    clear HE hdn
    go_enter Try.func26, Try.ntmps26
    go_wp2_with fail
    go_loop [3, 4] (fun v i => v = .slice none 0 0 ∧ i = .int .i64 0) (fun _ _ => 0)
    case atStart => exact ⟨rfl, rfl⟩
    case round =>
      obtain ⟨rfl, rfl⟩ := hrel
      go_wp2_with fail
      all_goals
        go_ret
        exact ⟨_, rfl, ⟨rfl, .inl ⟨rfl, rfl⟩⟩, Below.refl _ _⟩
  | false =>
    have HE : rnames s = nameL s := by simp [rnames, nameL, hdn]
    rw [HE]
    rw [hdn] at c8
    clear HE hdn
    go_enter Try.func26, Try.ntmps26
    go_wp2_with fail
    go_loopw [3, 4] (fun v i wr => ∃ k : Nat, k ≤ L ∧ i = .int .i64 k ∧ (∃ g cp, v = .slice g k cp) ∧ Hid (wr.ownsRow w.heap.size 9 1 v k (((nameL s).take k).map encStr)) ∧ Below w.heap.size w wr) (fun _ i _ => L - (intOf i).toNat)
    case atStart => exact ⟨0, Nat.zero_le _, rfl, ⟨none, 0, rfl⟩, ⟨rfl, .inl ⟨rfl, rfl⟩⟩, Below.refl _ _⟩
    case round =>
      obtain ⟨k, hk, rfl, ⟨g, cp, rfl⟩, HR, hb⟩ := hrel
      have x2 := (hb.cell (World.block_lt_of_cell? _ _ c2)).trans c2
      have x8 := (hb.cell (World.block_lt_of_cell? _ _ c8)).trans c8
      by_cases hkl : k < L
      · obtain ⟨p, hp⟩ : ∃ p, s.dir[k]? = some p := ⟨_, List.getElem?_eq_getElem (by have := HL.out; omega)⟩
        obtain ⟨bd, hbd, _, z0, _⟩ := EntsIn.cells (by have := HD.out.dir; rw [HDV.out] at this; exact this) hp
        subst hbd
        have z0' := (hb.cell (World.block_lt_of_cell? _ _ z0)).trans z0
        have HN : Hid (((nameL s).take (k + 1)).map encStr = ((nameL s).take k).map encStr ++ [.string p.1]) := by
          show _ = _
          rw [List.take_add_one, show (nameL s)[k]? = some p.1.data.toList by unfold nameL; rw [List.getElem?_map, hp]; rfl, List.map_append]
          simp [encStr_of]
        have hsz := hb.size
        clear hp z0
        go_wp2_with (at_builtin; refine wpList_append_lies _ rfl _ _ 34 rfl w.heap.size 9 i0 _ 1 16 Try.underlying34 HINF.out hz0 hz1 hz2 rfl (by decide) (.slice g k cp) k (((nameL s).take k).map encStr) rfl (HR.out.alloc _) ⟨wr.heap.size, 0, none⟩ 1 1 [.string p.1] rfl rfl (cell_one_new _ _ _) (by simp [Value.oneCell']) (by omega) (by unfold maxLen; omega) (by omega) (by simp; omega) _ (by rfl) ?_; intro g1 cap1 w1 hown1 hg1 hat1 hlt1; have hb1 : Below w.heap.size w w1 := (hb.alloc hb.size _).grown hg1 (by simp; omega) (fun k e => own_base HR.out e))
        go_roundw
        case rel => exact ⟨k + 1, by omega, by go_num, ⟨_, _, rfl⟩, by show Hid (World.ownsRow _ _ _ _ _ _ _); rw [HN.out]; exact hown1, hb1⟩
        case measure => simp [intOf]; omega
      · obtain rfl : k = L := by omega
        go_wp2_with fail
        go_ret
        refine ⟨_, rfl, ?_, hb⟩
        have h1 := HR.out
        have hnl : (nameL s).length = k := by unfold nameL; rw [List.length_map]; exact HL.out
        rw [List.take_of_length_le (by omega)] at h1
        show World.ownsRow _ _ _ _ _ _ _
        rw [hnl]
        exact h1
end Go.Proofs.Ythdncdhgnoggkaa
