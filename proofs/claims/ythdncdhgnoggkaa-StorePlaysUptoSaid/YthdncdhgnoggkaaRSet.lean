/-
  The contracts of the reference's at, set, step, change, New.
  Conditions: lists are no longer than Go allows.
-/
import Derived.Test.YthdncdhgnoggkaaRRep
set_option linter.unusedSimpArgs false
set_option linter.unusedVariables false
namespace Go.Proofs.Ythdncdhgnoggkaa
open Go.RowKit

theorem rfind_drop {l : RDir} {k : Nat} {p : ByteArray × Int} (h : l[k]? = some p) (n : ByteArray) : rfind (l.drop k) n = if p.1 = n then some p.2 else rfind (l.drop (k + 1)) n := by
  have hl := (List.getElem?_eq_some_iff.1 h).1
  rw [List.drop_eq_getElem_cons hl, (List.getElem?_eq_some_iff.1 h).2]
  rfl
def AtP (l : RDir) (n : ByteArray) (w : World) (e : Ending) (w' : World) : Prop :=
  w' = w ∧ ((e = .returned (.int .i64 (-1)) ∧ rfind l n = none) ∨ ∃ (i : Nat) (f : Int), e = .returned (.int .i64 i) ∧ l[i]? = some (n, f) ∧ rfind l n = some f)

set_option maxRecDepth 100000 in
set_option maxHeartbeats 2000000 in
theorem at_ok (S : Nat → Prop) (v : Value) (l : RDir) (n : ByteArray) (w : World) (h : EntsIn S w v l) :
    Calls Try.prog 52 #[v, .string n] w (AtP l n w) := by
  obtain ⟨A, c, rfl, hl, hc⟩ := h.sl
  have HE := Lib.hid h
  clear h
  obtain ⟨L, hL⟩ : ∃ L, l.length = L := ⟨_, rfl⟩
  rw [hL] at hl hc
  have HL := Lib.hid hL
  rw [hL] at HE ⊢
  clear hL
  go_enter Try.func52, Try.ntmps52
  go_wp2_with fail
  go_loop [5] (fun i => ∃ k : Nat, k ≤ L ∧ i = .int .i64 k ∧ Hid (rfind l n = rfind (l.drop k) n)) (fun i => L - (intOf i).toNat)
  case atStart => exact ⟨0, Nat.zero_le _, rfl, rfl⟩
  case round =>
    obtain ⟨k, hk, rfl, HF⟩ := hrel
    by_cases hkl : k < L
    · obtain ⟨p, hp⟩ : ∃ p, l[k]? = some p := ⟨_, List.getElem?_eq_getElem (by have := HL.out; omega)⟩
      obtain ⟨b, rfl, _, hc0, _⟩ := HE.out.cells hp
      have hd := rfind_drop hp n
      obtain ⟨m, f⟩ := p
      dsimp only at hc0 hd
      by_cases hm : m = n
      · rw [if_pos hm] at hd
        have HD := Lib.hid hd
        have HP := Lib.hid hp
        subst hm
        have hb : (m.toList == m.toList) = true := by simp
        clear hd hp
        go_wp2
        go_ret
        exact ⟨rfl, .inr ⟨k, f, rfl, HP.out, HF.out.trans HD.out⟩⟩
      · rw [if_neg hm] at hd
        have HD := Lib.hid hd
        have hb : (m.toList == n.toList) = false := (toList_beq m n).trans (by simp [hm])
        clear hd hp hm
        go_wp2
        go_round
        case rel => exact ⟨k + 1, by omega, by go_num, HF.out.trans HD.out⟩
        case measure => simp [intOf]; omega
    · obtain rfl : k = L := by omega
      go_wp2
      go_ret
      exact ⟨rfl, .inl ⟨rfl, by have h1 := HF.out; have h2 := HL.out; rw [List.drop_of_length_le (by omega)] at h1; exact h1⟩⟩

theorem info91 : (Try.prog.info? 91).map (fun i => (i.zero, i.size, i.bytes)) = some (some (.agg #[.string ⟨#[]⟩, .int .i64 0]), 2, 24) := by kernel_rfl
def GivesEnts (w : World) (l : RDir) (e : Ending) (w' : World) : Prop := ∃ v, e = .returned v ∧ EntsIn (fun k => w.heap.size ≤ k) w' v l ∧ Below w.heap.size w w'
theorem rsetGo_step {l : RDir} {k : Nat} {m : ByteArray} {g : Int} (h : l[k]? = some (m, g)) (n : ByteArray) (f : Int) (d : Bool) :
    rsetGo n f (l.drop k) d = ((if !d && gtB m n then [(n, f)] else []) ++ (if m = n then [] else [(m, g)]) ++ (rsetGo n f (l.drop (k + 1)) (d || (!d && gtB m n))).1, (rsetGo n f (l.drop (k + 1)) (d || (!d && gtB m n))).2) := by
  have hl := (List.getElem?_eq_some_iff.1 h).1
  rw [List.drop_eq_getElem_cons hl, (List.getElem?_eq_some_iff.1 h).2]
  rfl
theorem rsetGo_end {l : RDir} {k : Nat} (h : l.length ≤ k) (n : ByteArray) (f : Int) (d : Bool) : rsetGo n f (l.drop k) d = ([], d) := by
  rw [List.drop_of_length_le h]
  rfl
/-- What the rounds have made so far. -/
structure SetAt (w : World) (l : RDir) (n : ByteArray) (f : Int) (k : Nat) (d : Bool) (acc : RDir) (v : Value) (wr : World) : Prop where
  is : rsetGo n f l (decide (f < 0)) = (acc ++ (rsetGo n f (l.drop k) d).1, (rsetGo n f (l.drop k) d).2)
  row : wr.ownsRow w.heap.size 91 2 v acc.length (flat2 (acc.map entP))
  below : Below w.heap.size w wr
  len : acc.length ≤ 2 * k
theorem flat2_snoc (acc : RDir) (p : ByteArray × Int) : flat2 ((acc ++ [p]).map entP) = flat2 (acc.map entP) ++ [.string p.1, .int .i64 p.2] := by
  rw [List.map_append, flat2_append]
  rfl
theorem SetAt.push {w wr w' : World} {B : Nat} {acc : RDir} {v : Value} {g cap : Nat} {o : Obj} (hb : Below B w wr) (hB : B ≤ wr.heap.size) (p : ByteArray × Int) (row : wr.ownsRow B 91 2 v acc.length (flat2 (acc.map entP)))
    (hg : (wr.alloc o).grownBy w' v.ownBlock) (hown : w'.ownsRow B 91 2 (.slice (some ⟨g, 0, none⟩) (acc.length + 1) cap) (acc.length + 1) (flat2 (acc.map entP) ++ [.string p.1, .int .i64 p.2])) :
    w'.ownsRow B 91 2 (.slice (some ⟨g, 0, none⟩) (acc ++ [p]).length cap) (acc ++ [p]).length (flat2 ((acc ++ [p]).map entP)) ∧ Below B w w' := by
  rw [flat2_snoc, List.length_append]
  exact ⟨hown, (hb.alloc hB o).grown hg (by simp; omega) (fun k e => own_base row e)⟩

theorem SetAt.next {w wr w' : World} {l : RDir} {n m : ByteArray} {f q : Int} {k : Nat} {d d' : Bool} {acc acc' : RDir} {v v' : Value} (h : SetAt w l n f k d acc v wr) (hp : l[k]? = some (m, q))
    (e : acc' = acc ++ ((if (!d && gtB m n) = true then [(n, f)] else []) ++ (if m = n then [] else [(m, q)]))) (e2 : d' = (d || (!d && gtB m n)))
    (hrow : w'.ownsRow w.heap.size 91 2 v' acc'.length (flat2 (acc'.map entP))) (hb : Below w.heap.size w w') : SetAt w l n f (k + 1) d' acc' v' w' := by
  refine ⟨?_, hrow, hb, ?_⟩
  · rw [h.is, rsetGo_step hp n f d, e, e2]
    simp only [List.append_assoc]
  · rw [e]
    have := h.len
    simp only [List.length_append]
    split <;> split <;> simp <;> omega

set_option maxRecDepth 100000 in
set_option maxHeartbeats 4000000 in
theorem set_ok (S : Nat → Prop) (v : Value) (l : RDir) (n : ByteArray) (f : Int) (w : World) (h : EntsIn S w v l) (hlen : l.length ≤ 1099511627776) :
    Calls Try.prog 47 #[v, .string n, .int .i64 f] w (GivesEnts w (rset l n f)) := by
  obtain ⟨i0, hi, hz0, hz1, hz2⟩ := info_parts info91
  have HI := Lib.hid hi
  obtain ⟨A, c, rfl, hl, hc⟩ := h.sl
  have HE := Lib.hid h
  clear h hi
  obtain ⟨L, hL⟩ : ∃ L, l.length = L := ⟨_, rfl⟩
  rw [hL] at hl hc hlen
  have HL := Lib.hid hL
  rw [hL] at HE ⊢
  clear hL
  cases hf0 : decide (f < 0)
  all_goals
    have HF0 := Lib.hid hf0
    go_enter Try.func47, Try.ntmps47
    go_wp2_with fail
    go_loopw [7, 8, 9] (fun v7 v8 i wr => ∃ k : Nat, k ≤ L ∧ i = .int .i64 k ∧ ∃ d acc g cp, v8 = .bool d ∧ v7 = .slice g acc.length cp ∧ Hid (SetAt w l n f k d acc (.slice g acc.length cp) wr)) (fun _ _ i _ => L - (intOf i).toNat)
    case atStart => exact ⟨0, Nat.zero_le _, rfl, _, [], .none, 0, rfl, rfl, ⟨by rw [hf0]; simp, ⟨rfl, .inl ⟨rfl, rfl⟩⟩, Below.refl _ _, Nat.le_refl _⟩⟩
    case round =>
      clear hf0
      obtain ⟨k, hk, rfl, d, acc, g, cp, rfl, rfl, HS⟩ := hrel
      by_cases hkl : k < L
      · obtain ⟨⟨m, q⟩, hp⟩ : ∃ p, l[k]? = some p := ⟨_, List.getElem?_eq_getElem (by have := HL.out; omega)⟩
        obtain ⟨b, rfl, hblt, hc0, hc1⟩ := HE.out.cells hp
        dsimp only at hc0 hc1
        have hst := Lib.hid (rsetGo_step hp n f d)
        have HC0 := Lib.hid hc0
        have HC1 := Lib.hid hc1
        have HP := Lib.hid hp
        have hac := HS.out.len
        have hsz := HS.out.below.size
        have hc0w := (HS.out.below.cell (World.block_lt_of_cell? _ _ hc0)).trans hc0
        have hc1w := (HS.out.below.cell (World.block_lt_of_cell? _ _ hc1)).trans hc1
        have tok1 : True := trivial
        clear hp hst hc0 hc1
        by_cases hmn : m = n
        · have hg : gtB m n = false := by simp [gtB, hmn]
          have HN := Lib.hid (SetAt.next HS.out HP.out (acc' := acc) (by rw [hg]; simp [hmn]) rfl HS.out.row HS.out.below)
          rw [hg] at HN
          subst hmn
          have hb : (m.toList == m.toList) = true := by simp
          clear hg
          cases d
          all_goals
            go_wp2
            go_roundw
            case rel => exact ⟨k + 1, by omega, by go_num, _, acc, g, cp, rfl, rfl, HN⟩
            case measure => simp [intOf]; omega
        · have hb : (m.toList == n.toList) = false := (toList_beq m n).trans (by simp [hmn])
          have HMN := Lib.hid hmn
          clear hmn
          cases d with
          | true =>
            go_wp2_with ((at_builtin; have _t := tok1; refine wpList_append_lies _ rfl _ _ 53 rfl w.heap.size 91 i0 _ 2 24 Try.underlying53 HI.out hz0 hz1 hz2 rfl (by decide) (.slice g acc.length cp) acc.length (flat2 (acc.map entP)) rfl (HS.out.row.alloc _) ⟨wr.heap.size, 0, none⟩ 1 1 [.string m, .int .i64 q] rfl rfl (cells_new2 _ _ _ _) (by simp [Value.oneCell']) (by omega) (by unfold maxLen; omega) (by omega) (by simp; omega) _ (by rfl) ?_; intro g1 cap1 w1 hown1 hg1 hat1 hlt1; clear tok1 _t; obtain ⟨hr1, hb1⟩ := SetAt.push HS.out.below hsz (m, q) HS.out.row hg1 hown1; have HR1 := Lib.hid hr1; have hs1 := hb1.size; have hc0' := (hb1.cell (World.block_lt_of_cell? _ _ HC0.out)).trans HC0.out; have hc1' := (hb1.cell (World.block_lt_of_cell? _ _ HC1.out)).trans HC1.out; clear hown1 hg1 hat1 hr1))
            go_roundw
            case rel => exact ⟨k + 1, by omega, by go_num, true, acc ++ [(m, q)], _, _, rfl, by simp, SetAt.next HS.out HP.out (by simp [HMN.out]) rfl HR1.out hb1⟩
            case measure => simp [intOf]; omega
          | false =>
            cases hbl : Op.bytesLess m.toList n.toList with
            | true =>
              have HG : Hid (gtB m n = false) := by show gtB m n = false; simp [gtB, hbl]
              go_wp2_with ((at_builtin; have _t := tok1; refine wpList_append_lies _ rfl _ _ 53 rfl w.heap.size 91 i0 _ 2 24 Try.underlying53 HI.out hz0 hz1 hz2 rfl (by decide) (.slice g acc.length cp) acc.length (flat2 (acc.map entP)) rfl (HS.out.row.alloc _) ⟨wr.heap.size, 0, none⟩ 1 1 [.string m, .int .i64 q] rfl rfl (cells_new2 _ _ _ _) (by simp [Value.oneCell']) (by omega) (by unfold maxLen; omega) (by omega) (by simp; omega) _ (by rfl) ?_; intro g1 cap1 w1 hown1 hg1 hat1 hlt1; clear tok1 _t; obtain ⟨hr1, hb1⟩ := SetAt.push HS.out.below hsz (m, q) HS.out.row hg1 hown1; have HR1 := Lib.hid hr1; have hs1 := hb1.size; have hc0' := (hb1.cell (World.block_lt_of_cell? _ _ HC0.out)).trans HC0.out; have hc1' := (hb1.cell (World.block_lt_of_cell? _ _ HC1.out)).trans HC1.out; clear hown1 hg1 hat1 hr1))
              go_roundw
              case rel => exact ⟨k + 1, by omega, by go_num, false, acc ++ [(m, q)], _, _, rfl, by simp, SetAt.next HS.out HP.out (by rw [HG.out]; simp [HMN.out]) (by rw [HG.out]; rfl) HR1.out hb1⟩
              case measure => simp [intOf]; omega
            | false =>
              have HG : Hid (gtB m n = true) := by show gtB m n = true; simp [gtB, hbl, hb]
              go_wp2_with (first | (at_builtin; have _t := tok1; refine wpList_append_lies _ rfl _ _ 53 rfl w.heap.size 91 i0 _ 2 24 Try.underlying53 HI.out hz0 hz1 hz2 rfl (by decide) (.slice g acc.length cp) acc.length (flat2 (acc.map entP)) rfl (HS.out.row.alloc _) ⟨wr.heap.size, 0, none⟩ 1 1 [.string n, .int .i64 f] rfl rfl (cells_new2 _ _ _ _) (by simp [Value.oneCell']) (by omega) (by unfold maxLen; omega) (by omega) (by simp; omega) _ (by rfl) ?_; intro g1 cap1 w1 hown1 hg1 hat1 hlt1; clear tok1 _t; obtain ⟨hr1, hb1⟩ := SetAt.push HS.out.below hsz (n, f) HS.out.row hg1 hown1; have HR1 := Lib.hid hr1; have hs1 := hb1.size; have hc0' := (hb1.cell (World.block_lt_of_cell? _ _ HC0.out)).trans HC0.out; have hc1' := (hb1.cell (World.block_lt_of_cell? _ _ HC1.out)).trans HC1.out; clear hown1 hg1 hat1 hr1) | (at_builtin; refine wpList_append_lies _ rfl _ _ 53 rfl w.heap.size 91 i0 _ 2 24 Try.underlying53 HI.out hz0 hz1 hz2 rfl (by decide) (.slice (some ⟨g1, 0, none⟩) (acc ++ [(n, f)]).length cap1) (acc ++ [(n, f)]).length (flat2 ((acc ++ [(n, f)]).map entP)) (by simp [Act.eval, Act.put]) (HR1.out.alloc _) ⟨w1.heap.size, 0, none⟩ 1 1 [.string m, .int .i64 q] rfl rfl (cells_new2 _ _ _ _) (by simp [Value.oneCell']) (by omega) (by unfold maxLen; simp; omega) (by simp; omega) (by simp; omega) _ (by rfl) ?_; intro g2 cap2 w2 hown2 hg2 hat2 hlt2; obtain ⟨hr2, hb2⟩ := SetAt.push hb1 hs1 (m, q) HR1.out hg2 hown2; have HR2 := Lib.hid hr2; clear hown2 hg2 hat2 hr2))
              go_roundw
              case rel => exact ⟨k + 1, by omega, by go_num, true, acc ++ [(n, f)] ++ [(m, q)], _, _, rfl, by simp, SetAt.next HS.out HP.out (by rw [HG.out]; simp [HMN.out]) (by rw [HG.out]; rfl) HR2.out hb2⟩
              case measure => simp [intOf]; omega
      · obtain rfl : k = L := by omega
        have hac := HS.out.len
        have hsz := HS.out.below.size
        have HEND : Hid (rsetGo n f l (decide (f < 0)) = (acc, d)) := by
          show _ = _
          have h1 := HS.out.is
          rw [rsetGo_end (by have := HL.out; omega)] at h1
          simpa using h1
        have tok1 : True := trivial
        cases d with
        | true =>
          go_wp2
          go_ret
          refine ⟨_, rfl, ?_, HS.out.below⟩
          unfold rset
          rw [HEND.out]
          exact own_pairs HS.out.row (by simp; omega)
        | false =>
          go_wp2_with (at_builtin; refine wpList_append_lies _ rfl _ _ 53 rfl w.heap.size 91 i0 _ 2 24 Try.underlying53 HI.out hz0 hz1 hz2 rfl (by decide) (.slice g acc.length cp) acc.length (flat2 (acc.map entP)) rfl (HS.out.row.alloc _) ⟨wr.heap.size, 0, none⟩ 1 1 [.string n, .int .i64 f] rfl rfl (cells_new2 _ _ _ _) (by simp [Value.oneCell']) (by omega) (by unfold maxLen; omega) (by omega) (by simp; omega) _ (by rfl) ?_; intro g1 cap1 w1 hown1 hg1 hat1 hlt1; obtain ⟨hr1, hb1⟩ := SetAt.push HS.out.below hsz (n, f) HS.out.row hg1 hown1; have HR1 := Lib.hid hr1; clear hown1 hg1 hat1 hr1)
          go_ret
          refine ⟨_, rfl, ?_, hb1⟩
          unfold rset
          rw [HEND.out]
          have := own_pairs HR1.out (by simp; omega)
          simp only [Bool.false_eq_true, if_false]
          rw [List.length_append] at this
          exact this

set_option maxRecDepth 100000 in
set_option maxHeartbeats 2000000 in
theorem rstep_ok (S : Nat → Prop) (db : Nat) (a b : ByteArray) (s : RDk) (r : RRep) (w : World) (h : RDiskRep S w db s r) (ha : a.size ≤ 9223372036854775807) (hb : b.size ≤ 9223372036854775807) :
    Calls Try.prog 51 #[fptr db, .string a, .string b] w fun e w' => e = .returned (.int .i64 (rstep (okName a && okName b) s).1) ∧ RDiskRep S w' db (rstep (okName a && okName b) s).2 r ∧ Touch (fun k => k = db) w w' := by
  obtain ⟨⟨c0, c1, c2, c3, c4, c5, c6, c7, c8⟩, hf, hlt⟩ := cells9 h.blk
  unfold fptr
  have HA := Lib.hid (rname_ok a w ha)
  have HB := Lib.hid (rname_ok b w hb)
  clear ha hb
  cases hd : s.down with
  | true =>
    rw [hd] at c8
    have hst : rstep (okName a && okName b) s = (62, s) := by simp [rstep, hd]
    rw [hst]
    clear hd hst
    go_enter Try.func51, Try.ntmps51
    go_wp2
    go_ret
    exact ⟨rfl, h, Touch.refl _ _⟩
  | false =>
    rw [hd] at c8
    cases hoa : okName a with
    | false =>
      have hst : rstep (false && okName b) s = (42, s) := by simp [rstep, hd]
      rw [hst]
      rw [hoa] at HA
      clear hd hst hoa
      go_enter Try.func51, Try.ntmps51
      go_wp2_with (go_at_call 56; refine HA.out.mono ?_; rintro e w' ⟨rfl, hw⟩; subst hw)
      go_ret
      exact ⟨rfl, h, Touch.refl _ _⟩
    | true =>
      rw [hoa] at HA
      cases hob : okName b with
      | false =>
        have hst : rstep (true && false) s = (42, s) := by simp [rstep, hd]
        rw [hst]
        rw [hob] at HB
        clear hd hst hoa hob
        have tok1 : True := trivial
        go_enter Try.func51, Try.ntmps51
        go_wp2_with (first | (go_at_call 56; have _t := tok1; refine HA.out.mono ?_; rintro e w' ⟨rfl, hw⟩; subst hw; clear tok1 _t) | (go_at_call 56; refine HB.out.mono ?_; rintro e w' ⟨rfl, hw⟩; subst hw))
        go_ret
        exact ⟨rfl, h, Touch.refl _ _⟩
      | true =>
        rw [hob] at HB
        obtain ⟨m, hm⟩ : ∃ m, wrap64 (s.n + 1) = m := ⟨_, rfl⟩
        obtain ⟨x, hx⟩ : ∃ x, wrap64 (m - s.src) = x := ⟨_, rfl⟩
        obtain ⟨fk, hfk⟩ : ∃ fk, findI s.plan x = fk := ⟨_, rfl⟩
        have hst : rstep (true && true) s = (rtell fk, { s with n := m, down := decide (rtell fk = 62) }) := by
          simp only [rstep, hd, Bool.and_self, Bool.not_true, Bool.false_eq_true, if_false, w64_eq, hm, hx, hfk]
        rw [hst]
        have HD := Lib.hid hd
        have hblk2 := heap_setCell8 h.blk 7 (.int .i64 (wrap64 (s.n + 1)))
        have r2 := h.own (w' := w.setCell ⟨db, 7, none⟩ (.int .i64 (wrap64 (s.n + 1)))) (touch_set w db 7 _) (wrap64 (s.n + 1)) s.down (by rw [hblk2]; rfl)
        have t2 : Touch (fun k => k = db) w (w.setCell ⟨db, 7, none⟩ (.int .i64 (wrap64 (s.n + 1)))) := touch_set w db 7 _
        obtain ⟨w2, hw2⟩ : ∃ w2, w.setCell ⟨db, 7, none⟩ (.int .i64 (wrap64 (s.n + 1))) = w2 := ⟨_, rfl⟩
        rw [hw2] at r2 t2
        rw [hm] at r2
        have HW2 := Lib.hid hw2
        have HM := Lib.hid hm
        have HX := Lib.hid hx
        have HFK := Lib.hid hfk
        clear hd hoa hob hblk2 hw2 hm hx hfk hst
        have tok1 : True := trivial
        go_enter Try.func51, Try.ntmps51
        go_wp2_with (first | (go_at_call 56; have _t := tok1; refine HA.out.mono ?_; rintro e w' ⟨rfl, rfl⟩; clear tok1 _t) | (go_at_call 56; refine HB.out.mono ?_; rintro e w' ⟨rfl, rfl⟩))
        rw [HW2.out]
        rw [HM.out]
        clear HW2 HM HA HB c0 c1 c2 c3 c4 c5 c6 c7 c8 hf h
        obtain ⟨⟨c0, c1, c2, c3, c4, c5, c6, c7, c8⟩, hf, hlt2⟩ := cells9 r2.blk
        replace c8 : w2.cell? ⟨db, 8, none⟩ = some (.bool false) := c8.trans (by rw [HD.out])
        obtain ⟨A, c, epv, hpl, hpc⟩ := r2.plan.sl
        dsimp only at epv hpl hpc c0 c6 c7
        rw [epv] at c5
        have HPL : Hid (RPlanIn S w2 (.slice A s.plan.length c) s.plan) := by have := r2.plan; dsimp only at this; rw [epv] at this; exact this
        have HR2 := Lib.hid r2
        clear r2 epv
        go_loopw [7] (fun i wr => ∃ k : Nat, k ≤ s.plan.length ∧ i = .int .i64 k ∧ Hid (findI s.plan x = findI (s.plan.drop k) x) ∧ ∃ nq, wr = w2.drewN nq) (fun i _ => s.plan.length - (intOf i).toNat)
        case atStart => exact ⟨0, Nat.zero_le _, rfl, rfl, 0, rfl⟩
        case round =>
          obtain ⟨k, hk, rfl, HF, nq, rfl⟩ := hrel
          by_cases hkl : k < s.plan.length
          · obtain ⟨p, hp⟩ : ∃ p, s.plan[k]? = some p := ⟨_, List.getElem?_eq_getElem hkl⟩
            obtain ⟨b, rfl, hblt, q0, q1⟩ := HPL.out.cells hp
            have hwx : IntKind.i64.wrap (m - s.src) = x := (IntWalk.i64_left _).trans HX.out
            have hdr : findI (s.plan.drop k) x = if p.1 = x then some p.2 else findI (s.plan.drop (k + 1)) x := by
              rw [List.drop_eq_getElem_cons hkl, (List.getElem?_eq_some_iff.1 hp).2]
              rfl
            obtain ⟨p1, p2⟩ := p
            dsimp only at q0 q1 hdr
            have i1 : (0 : Int) ≤ (k : Int) := by omega
            have i2 : (k : Int) < (s.plan.length : Int) := by omega
            by_cases he : p1 = x
            · rw [if_pos he] at hdr
              have HD2 := Lib.hid (HFK.out.symm.trans (HF.out.trans hdr))
              subst he
              clear hdr hp
              have hb1 : (p1 != p1) = false := by simp
              have HT : Hid (fk = some p2) := HD2.out
              go_wp2_with fail
              go_quiet (fail)
              by_cases e1 : p2 = 1
              · subst e1
                have HT1 : Hid (rtell fk = 61) := by show rtell fk = 61; rw [HT.out]; rfl
                go_wp2_with fail
                go_ret
                refine ⟨ret_int HT1.out.symm, ?_, t2.drewN _⟩
                have h2 := HR2.out
                rw [HT1.out, show decide ((61 : Int) = 62) = false from rfl]
                have hd := HD.out
                rw [hd] at h2
                exact h2.keep (fun _ hs => hs) (fun _ _ _ => rfl)
              · by_cases e2 : p2 = 2
                · subst e2
                  have HT1 : Hid (rtell fk = 60) := by show rtell fk = 60; rw [HT.out]; rfl
                  clear e1
                  go_wp2_with fail
                  go_ret
                  refine ⟨ret_int HT1.out.symm, ?_, t2.drewN _⟩
                  have h2 := HR2.out
                  rw [HT1.out, show decide ((60 : Int) = 62) = false from rfl]
                  have hd := HD.out
                  rw [hd] at h2
                  exact h2.keep (fun _ hs => hs) (fun _ _ _ => rfl)
                · have HT1 : Hid (rtell fk = 62) := by show rtell fk = 62; rw [HT.out]; simp [rtell, e1, e2]
                  have b1 : (p2 == 1) = false := beq_eq_false_iff_ne.2 e1
                  have b2 : (p2 == 2) = false := beq_eq_false_iff_ne.2 e2
                  clear e1 e2
                  go_wp2_with fail
                  go_ret
                  refine ⟨ret_int HT1.out.symm, ?_, (t2.drewN _).set1 db 8 (.inl rfl) _⟩
                  rw [HT1.out, show decide ((62 : Int) = 62) = true from rfl]
                  have r3 := HR2.out.own (touch_set w2 db 8 (.bool true)) m true (by rw [heap_setCell8 HR2.out.blk]; rfl)
                  exact r3.keep (fun _ hs => hs) (fun _ _ _ => rfl)
            · rw [if_neg he] at hdr
              have HD2 := Lib.hid hdr
              have hb1 : (p1 != x) = true := by simpa using he
              clear hdr hp he
              go_wp2_with fail
              go_quiet (fail)
              go_wp2_with fail
              go_roundw
              case rel => exact ⟨k + 1, by omega, by go_num, HF.out.trans HD2.out, _, rfl⟩
              case measure => simp [intOf]; omega
          · obtain rfl : k = s.plan.length := by omega
            have HT1 : Hid (rtell fk = 0) := by
              show rtell fk = 0
              have h1 := HF.out
              rw [List.drop_length, HFK.out] at h1
              rw [h1]
              rfl
            go_wp2_with fail
            go_ret
            refine ⟨ret_int HT1.out.symm, ?_, t2.drewN _⟩
            have h2 := HR2.out
            rw [HT1.out, show decide ((0 : Int) = 62) = false from rfl]
            have hd := HD.out
            rw [hd] at h2
            exact h2.keep (fun _ hs => hs) (fun _ _ _ => rfl)
end Go.Proofs.Ythdncdhgnoggkaa
