/-
  The contracts of a disk's List, and of slices.Contains at strings.
  Conditions: the disk lies in blocks of S; no name is longer than 64; bounds on how many.
-/
import Derived.Test.YthdncdhgnoggkaaGood
import Derived.Test.YthdncdhgnoggkaaLaid
import Derived.Shelf.SlIter.Nil
import Derived.Shelf.SortM.Plain
import Derived.Shelf.SortM.SortNone
import Derived.Shelf.Abstract
set_option linter.unusedSimpArgs false
set_option linter.unusedVariables false
namespace Go.Proofs.Ythdncdhgnoggkaa
open Go.RowKit Go.Maps Go.Sort Go.Shelf Go.WideShapes

/-- How an element reads that is not looked at. -/
def anyElem : Value → Option (DataW Unit × List MemPlace) := fun _ => some (.nil, [])
def keysOf (l : Dir) : List (List UInt8) := l.map fun p => p.1.data.toList

theorem sorts (m : Nat) : AnyZ.SortsIn Try.prog Try.sorted38_ren Fence.wide m :=
  ⟨fun blk off cap ss W hH hblk hsz => callsIn_wide.2 (AnyM.slices_Sort_string Try.sort66 blk off cap ss W hH hblk hsz),
   fun p cap W => callsIn_wide.2 (AnyM.slices_Sort_string_none Try.sort66 p cap W)⟩
theorem keys_ok (mb : Option Nat) (w : World) : Calls Try.prog 39 #[.map mb] w fun e w' => e = .returned (.func (.func 67) #[] #[.pointer (some ⟨w.heap.size, 0, none⟩)]) ∧ w' = w.alloc (.cells #[.map mb] 64) :=
  callsIn_wide.1 (AnyZ.keys_in Try.keys39 Fence.wide 5 trivial rfl mb w)

theorem DirAt.owns {w : World} {b : Nat} {fb : List Nat} {l : Dir} (h : DirAt w b (ofFile fb) l) (hn : ∀ p ∈ l, p.1.size ≤ 64) (hl : l.length ≤ 1099511627776) :
    ∃ D0 : DataW Unit, w.ownsMap Try.prog 9 anyElem b l.length D0 ∧ (strKeys D0).Perm (keysOf l) ∧ Maps.size D0 = l.length := by
  obtain ⟨es, clock, hb, hs, hm⟩ := h
  have hsz : es.size = l.length := by have := congrArg List.length hm; simpa using this
  have hkey : ∀ x ∈ es.toList, ∃ p ∈ l, x.key = .string p.1 := fun x hx => by
    obtain ⟨p, hp, e, _⟩ := entry_of hm hx
    exact ⟨p, hp, e⟩
  have hrd : ∀ x ∈ es.toList, ∀ p : ByteArray × Nat, x.key = .string p.1 → p.1.size ≤ 64 → WideElems.rd Try.prog 9 anyElem x = some (.string p.1.data.toList, .nil) := fun x hx p e hp => by
    have hmx : p.1.size ≤ maxLen := by unfold maxLen; omega
    simp [WideElems.rd, e, keyOf, mapKey, Try.underlying9, hmx, anyElem]
  have hmap : es.toList.map (fun x => strOf (WideElems.rg Try.prog 9 anyElem x).1) = keysOf l := by
    have h2 := congrArg (List.map (fun q : Value × Value => match q.1 with | .string s => s.data.toList | _ => [])) hm
    simp only [List.map_map] at h2
    refine Eq.trans ?_ h2
    apply List.map_congr_left
    intro x hx
    obtain ⟨p, hp, e⟩ := hkey x hx
    rw [WideElems.rg_of (hrd x hx p e (hn p hp))]
    simp [e, strOf]
  refine ⟨_, ⟨es, clock, hb, ⟨by rw [hsz]; unfold maxLen; omega, hs, fun x hx => ?_⟩, by omega, rfl⟩, ?_, ?_⟩
  · obtain ⟨p, hp, e⟩ := hkey x hx
    exact ⟨_, hrd x hx p e (hn p hp)⟩
  · show (((es.toList.map (WideElems.rg Try.prog 9 anyElem)).foldr DataW.insert []).map fun p => strOf p.1).Perm _
    rw [← hmap]
    refine ((sorted_perm _).map _).trans ?_
    simp only [List.map_map, Function.comp_def]
    exact List.Perm.refl _
  · show ((es.toList.map (WideElems.rg Try.prog 9 anyElem)).foldr DataW.insert []).length = _
    rw [(sorted_perm _).length_eq, List.length_map, Array.length_toList]
    exact hsz

def sortedKeys (l : Dir) : List (List UInt8) := (keysOf l).mergeSort leB
theorem sortedKeys_length (l : Dir) : (sortedKeys l).length = l.length := by
  unfold sortedKeys keysOf
  rw [List.length_mergeSort, List.length_map]
/-- A row of strings that is new. -/
def StrRow (base : Nat) (w : World) (v : Value) (ss : List (List UInt8)) : Prop := w.ownsRow base 9 1 v ss.length (ss.map encStr)
def GivesStrs (w : World) (ss : List (List UInt8)) (e : Ending) (w' : World) : Prop := ∃ v, e = .returned v ∧ StrRow w.heap.size w' v ss ∧ Below w.heap.size w w'

set_option maxHeartbeats 1000000 in
theorem sorted_ok (b : Nat) (fb : List Nat) (l : Dir) (w : World) (h : DirAt w b (ofFile fb) l) (hn : ∀ p ∈ l, p.1.size ≤ 64) (hl : l.length ≤ 1099511627776) :
    Calls Try.prog 38 #[.func (.func 67) #[] #[.pointer (some ⟨w.heap.size, 0, none⟩)]] (w.alloc (.cells #[.map (some b)] 64)) (GivesStrs (w.alloc (.cells #[.map (some b)] 64)) (sortedKeys l)) := by
  obtain ⟨D0, hown, hperm, hsz⟩ := h.owns hn hl
  have hbl := hown.lt
  have hseq : SeqGives Fence.wide 2 Try.prog 67 #[.pointer (some ⟨w.heap.size, 0, none⟩)] encStr (fun ss => ss.Perm (strKeys D0)) (Maps.size D0) (w.alloc (.cells #[.map (some b)] 64)) :=
    AnyZ.keys_gives (ρ := Try.keys39_ren) { Try.keys39 with } Fence.wide _ trivial rfl (by omega) w.heap.size b l.length D0 _ (by simp) (by simp) (by
      obtain ⟨es, clock, hb, Ft, hs, hD⟩ := hown
      exact ⟨es, clock, (Below.heap_alloc _ _ b hbl).trans hb, Ft, hs, hD⟩)
  have key := AnyZ.sorted_in Try.sorted38 Fence.wide 5 trivial trivial trivial trivial rfl (by omega) (sorts _) (enters_of Try.func66 (by kernel_rfl) rfl) 67 #[.pointer (some ⟨w.heap.size, 0, none⟩)] trivial (enters_of Try.func67 (by kernel_rfl) rfl) _ _ (by rw [hsz]; unfold maxLen; omega) (by rw [hsz]; omega) _ hseq
  refine (callsIn_wide.1 key).mono ?_
  rintro e w' ⟨v, ss, rfl, hp, hrow, _, hb⟩
  refine ⟨v, rfl, ?_, hb⟩
  have hq : ss.mergeSort (fun x y => decide (x ≤ y)) = sortedKeys l := mergeSort_of_perm (hp.trans hperm)
  rw [hq] at hrow
  have hlen : ss.length = (sortedKeys l).length := by rw [sortedKeys_length, hp.length_eq, hperm.length_eq]; simp [keysOf]
  rw [hlen] at hrow
  exact hrow

/-- What List answers. -/
def listing (s : Dk) : List (List UInt8) := if s.down then [] else sortedKeys s.dir

set_option maxRecDepth 100000 in
set_option maxHeartbeats 2000000 in
theorem list_ok (S : Nat → Prop) (db : Nat) (s : Dk) (D : Nat) (w : World) (h : Disk S w db s) (hg : Good D s) (hD : D ≤ 1099511627776) :
    Calls Try.prog 12 #[fptr db] w (GivesStrs w (listing s)) := by
  obtain ⟨r, h⟩ := h
  unfold fptr
  obtain ⟨⟨d0, d1, d2, d3, d4, d5, d6, d7⟩, hf', hlt'⟩ := cells8 h.blk
  cases hdn : s.down with
  | true =>
    have HE : listing s = [] := by simp [listing, hdn]
    rw [HE]
    rw [hdn] at d7
    clear hdn HE
    go_enter Try.func12, Try.ntmps12
    go_wp2
    go_ret
    exact ⟨_, rfl, ⟨rfl, .inl ⟨rfl, rfl⟩⟩, Below.refl _ _⟩
  | false =>
    have HE : listing s = sortedKeys s.dir := by simp [listing, hdn]
    rw [HE]
    rw [hdn] at d7
    have HS := Lib.hid (sorted_ok r.dB r.fb s.dir w h.dir hg.dn (by have := hg.dl; omega))
    clear hdn HE
    go_enter Try.func12, Try.ntmps12
    go_wp2_with (first | (go_at_call 39; refine (keys_ok _ _).mono ?_; rintro e w1 ⟨rfl, rfl⟩) | (go_at_call 38; refine HS.out.mono ?_; rintro e w2 ⟨v, rfl, hr, hb⟩))
    go_ret
    exact ⟨v, rfl, ⟨hr.1, hr.2.imp id (fun ⟨g, cap, cur, a, b, c⟩ => ⟨g, cap, cur, a, by simp at b; omega, c⟩)⟩, ((Below.refl _ w).alloc (Nat.le_refl _) _).trans (hb.mono (by simp))⟩
theorem StrRow.cells {base : Nat} {w : World} {v : Value} {ss : List (List UInt8)} (h : StrRow base w v ss) : ∃ A c, v = .slice A ss.length c ∧ ss.length ≤ 9223372036854775807 ∧ ∀ (j : Nat) (x : List UInt8), ss[j]? = some x → ∃ g, A = some ⟨g, 0, none⟩ ∧ w.cell? ⟨g, j, none⟩ = some (encStr x) := by
  rcases h.2 with ⟨e, hn⟩ | ⟨g, cap, cur, e, _, hh, h1, h2, h3, h4⟩
  · refine ⟨none, 0, by rw [e, hn], by omega, fun j x hj => ?_⟩
    have := (List.getElem?_eq_some_iff.1 hj).1
    omega
  · refine ⟨_, cap, e, by unfold maxLen at h2; omega, fun j x hj => ⟨g, rfl, ?_⟩⟩
    have hjl := (List.getElem?_eq_some_iff.1 hj).1
    have := congrArg (fun l => l[j]?) h4
    simp only [List.getElem?_take, List.getElem?_map, hj, Option.map_some] at this
    rw [if_pos (by omega), Array.getElem?_toList] at this
    simp [World.cell?, hh, this]
def strIn (t : ByteArray) (ss : List (List UInt8)) : Bool := ss.contains t.data.toList
def IdxP (w : World) (t : ByteArray) (ss : List (List UInt8)) (e : Ending) (w' : World) : Prop := ∃ j : Int, e = .returned (.int .i64 j) ∧ (0 ≤ j) = (strIn t ss = true) ∧ w' = w

theorem encStr_eq (t : ByteArray) (x : List UInt8) : ((Value.string t : Value) = encStr x) ↔ t.data.toList = x := by
  constructor
  · intro h
    have h2 : t = ⟨x.toArray⟩ := by simpa [encStr] using h
    rw [h2]
  · rintro rfl
    simp [encStr]

theorem toList_ne {t u : ByteArray} (h : ¬ t = u) : (t.toList == u.toList) = false := by
  rw [beq_eq_false_iff_ne]
  intro e
  simp only [ByteArray.toList_eq] at e
  exact h (Go.WideShapes.bytes_inj e)
theorem toList_beq (t u : ByteArray) : (t.toList == u.toList) = decide (t = u) := by
  by_cases h : t = u
  · subst h; simp
  · rw [toList_ne h]; simp [h]
theorem strIn_yes {t : ByteArray} {ss : List (List UInt8)} {k : Nat} {x : List UInt8} (h : ss[k]? = some x) (e : t.data.toList = x) : strIn t ss = true := by
  unfold strIn
  rw [e]
  exact List.contains_iff_mem.2 (List.mem_of_getElem? h)
theorem strIn_no {t : ByteArray} {ss : List (List UInt8)} (h : ∀ (j : Nat) (x : List UInt8), ss[j]? = some x → t.data.toList ≠ x) : strIn t ss = false := by
  unfold strIn
  rw [← Bool.not_eq_true, List.contains_iff_mem]
  intro hm
  obtain ⟨j, hj⟩ := List.getElem?_of_mem hm
  exact h j _ hj rfl

set_option maxRecDepth 100000 in
set_option maxHeartbeats 2000000 in
theorem sindex_ok (base : Nat) (v : Value) (ss : List (List UInt8)) (t : ByteArray) (w : World) (h : StrRow base w v ss) :
    Calls Try.prog 63 #[v, .string t] w (IdxP w t ss) := by
  obtain ⟨A, c, rfl, hl, hc⟩ := h.cells
  obtain ⟨N, hN⟩ : ∃ N, N = ss.length := ⟨_, rfl⟩
  rw [← hN] at hl ⊢
  have HN := Lib.hid hN
  have HC := Lib.hid hc
  clear hN hc h
  go_enter Try.func63, Try.ntmps63
  go_wp2_with fail
  go_loop [8] (fun i => ∃ k : Nat, k ≤ N ∧ i = .int .i64 k ∧ Hid (∀ (j : Nat) (x : List UInt8), j < k → ss[j]? = some x → t.data.toList ≠ x)) (fun i => N - (intOf i).toNat)
  case atStart => exact ⟨0, Nat.zero_le _, rfl, fun j x hj => by omega⟩
  case round =>
    obtain ⟨k, hk, rfl, hrel2⟩ := hrel
    by_cases hkl : k < N
    · have hkl2 : k < ss.length := by have := HN.out; omega
      obtain ⟨x, hx⟩ : ∃ x, ss[k]? = some x := ⟨_, List.getElem?_eq_getElem hkl2⟩
      obtain ⟨g, rfl, hcell⟩ := HC.out k x hx
      have HX := Lib.hid hx
      clear hx
      obtain ⟨u, hu⟩ : ∃ u : ByteArray, u = ⟨x.toArray⟩ := ⟨_, rfl⟩
      have hcell2 : w.cell? ⟨g, k, none⟩ = some (.string u) := by rw [hcell, hu]
      have HU := Lib.hid hu
      clear hcell hu
      by_cases ht : t = u
      · have HT := Lib.hid (strIn_yes HX.out (show t.data.toList = x by rw [ht, HU.out]))
        subst ht
        go_wp2
        go_ret
        exact ⟨k, rfl, by rw [HT.out]; simp, rfl⟩
      · have hb : (t.toList == u.toList) = false := toList_ne ht
        go_wp2
        go_round
        case rel =>
          refine ⟨k + 1, by omega, by go_num, fun j y hj hy => ?_⟩
          by_cases e : j = k
          · subst e
            have e2 : x = y := by have := HX.out; rw [hy] at this; exact (Option.some.inj this).symm
            subst e2
            intro e3
            exact ht (by rw [HU.out, ← e3])
          · exact hrel2 j y (by omega) hy
        case measure => simp [intOf]; omega
    · obtain rfl : k = N := by omega
      have HNO := Lib.hid (strIn_no (t := t) (ss := ss) (fun j x hj => hrel2 j x (by have := (List.getElem?_eq_some_iff.1 hj).1; have := HN.out; omega) hj))
      go_wp2
      go_ret
      exact ⟨-1, rfl, by rw [HNO.out]; simp, rfl⟩

set_option maxRecDepth 100000 in
set_option maxHeartbeats 2000000 in
theorem has_ok (base : Nat) (v : Value) (ss : List (List UInt8)) (t : ByteArray) (w : World) (h : StrRow base w v ss) :
    Calls Try.prog 35 #[v, .string t] w fun e w' => e = .returned (.bool (strIn t ss)) ∧ w' = w := by
  obtain ⟨A, c, rfl, hl, hc⟩ := h.cells
  have HI := Lib.hid (sindex_ok base _ ss t w h)
  clear hc h hl
  go_enter Try.func35, Try.ntmps35
  go_wp2_with (go_at_call 63; refine HI.out.mono ?_; rintro e w1 ⟨j, rfl, hj, rfl⟩; have HJ := Lib.hid hj; clear hj)
  go_ret
  refine ⟨?_, rfl⟩
  have h2 : decide (0 ≤ j) = strIn t ss := by
    have := HJ.out
    cases hs : strIn t ss with
    | true => rw [hs] at this; simpa using this
    | false => rw [hs] at this; simpa using this
  rw [← h2]
  rfl
end Go.Proofs.Ythdncdhgnoggkaa
