/-
  The contracts of a disk's Read and Write.
  Conditions: the disk lies in blocks of S; the bytes are few enough for their slices.
-/
import Derived.Test.YthdncdhgnoggkaaBytes
import Derived.Maps.RangeRun
set_option linter.unusedSimpArgs false
set_option linter.unusedVariables false
namespace Go.Proofs.Ythdncdhgnoggkaa
open Go.RowKit

/-- What Read leaves. -/
def ReadP (S : Nat → Prop) (w : World) (db : Nat) (t : Int × Option (List Int) × Dk) (e : Ending) (w' : World) : Prop :=
  ∃ v, e = .returned (.tuple #[v, .int .i64 t.1]) ∧ BytesIn (fun k => w.heap.size ≤ k) w' v (t.2.1.getD []) ∧ Disk (Grow S w) w' db t.2.2 ∧ Touch S w w'

theorem nowAt_some {fs : List Fil} {i : Nat} {f : Fil} (h : fs[i]? = some f) : nowAt fs i = f.now := by simp [nowAt, h]

set_option maxRecDepth 100000 in
set_option maxHeartbeats 2000000 in
theorem read_ok (S : Nat → Prop) (db : Nat) (s : Dk) (r : Rep) (n : ByteArray) (w : World) (h : DiskRep S w db s r) (hn : n.size ≤ 9223372036854775807) :
    Calls Try.prog 37 #[fptr db, .string n] w (ReadP S w db (read n s)) := by
  have hlt := (cells8 h.blk).2.2
  have h0 : DiskRep S (w.alloc (.cells #[.string n] 9)) db s r := h.below ((Below.refl _ _).alloc (Nat.le_refl _) _)
  have hthere := there_ok S db (some ⟨w.heap.size, 0, none⟩) 1 1 n [] s r _ h0 (names1 w n) (by simpa using hn) (fun b o e => by cases e; omega)
  have hall : [n].all okName = okName n := by simp
  rw [hall] at hthere
  unfold fptr at hthere ⊢
  rcases there_cases (okName n) n s with ⟨i, ht, hfd⟩ | ⟨e1, hz, ht⟩
  · rw [ht] at hthere
    have HT : read n s = (0, some (nowAt (step (okName n) s).2.files i), (step (okName n) s).2) := by simp [read, ht]
    rw [HT]
    have HF := Lib.hid hfd
    have hthere2 : Calls Try.prog 61 #[.pointer (some ⟨db, 0, none⟩), .slice (some ⟨w.heap.size, 0, none⟩) 1 1] (w.alloc (.cells #[.string n] 9)) (fun e w' => e = .returned (.tuple #[.pointer (some ⟨fileB r.fb i, 0, none⟩), .int .i64 0]) ∧ DiskRep S w' db (step (okName n) s).2 r ∧ Touch (fun k => k = db) (w.alloc (.cells #[.string n] 9)) w') := hthere
    have HTH := Lib.hid hthere2
    clear HT hfd hthere hthere2 ht hall
    generalize (step (okName n) s).2 = s1 at HF HTH ⊢
    go_enter Try.func37, Try.ntmps37
    go_wp2_with fail
    refine HTH.out.mono ?_
    rintro e w1 ⟨rfl, hd, ht⟩
    obtain ⟨f, nv, sv, q1, q2, q3, q4, q5⟩ := hd.fileAt HF.out
    have Q1 := Lib.hid q1
    clear q1
    obtain ⟨⟨x0, x1⟩, xf, xl⟩ := cells2 q3
    obtain ⟨A, c, rfl⟩ := q4.sl
    go_wp2_with (go_at_call 64; refine (sclone_ok S _ _ _ q4).mono ?_; rintro e w2 ⟨v2, rfl, hv2, hb2⟩)
    go_ret2
    refine ⟨v2, rfl, ?_, ⟨r, (hd.below hb2).keep (fun _ hs => .inl hs) (fun _ _ _ => rfl)⟩, (((Touch.refl S w).alloc _).trans (ht.mono (fun k _ e => Or.inl (by rw [e]; exact h.sdb)))).trans (Touch.of_below hb2)⟩
    rw [nowAt_some Q1.out]
    exact hv2.keep (fun k hk => by have := ht.size; simp at this; show w.heap.size ≤ k; have : w1.heap.size ≤ k := hk; omega) (fun k o ho _ _ => ho)
  · rw [ht] at hthere
    have HT : read n s = (e1, none, (step (okName n) s).2) := by simp [read, ht]
    rw [HT]
    have HTH := Lib.hid hthere
    have b1 : (e1 == 0) = false := beq_eq_false_iff_ne.2 hz
    have b2 : (e1 != 0) = true := bne_iff_ne.2 hz
    clear HT hthere ht hall hz
    dsimp only at HTH
    go_enter Try.func37, Try.ntmps37
    go_wp2_with fail
    refine HTH.out.mono ?_
    rintro e w1 ⟨rfl, hd, ht⟩
    go_wp2
    go_ret2
    exact ⟨_, rfl, BytesIn.nil _ _, ⟨r, hd.keep (fun _ hs => .inl hs) (fun _ _ _ => rfl)⟩, ((Touch.refl S w).alloc _).trans (ht.mono (fun k _ e => Or.inl (by rw [e]; exact h.sdb)))⟩

/-! ### the sum over a directory -/
def lenAt (w : World) : Value → Int
  | .pointer (some a) => match w.cell? ⟨a.block, 0, none⟩ with
    | some (.slice _ n _) => n
    | _ => 0
  | _ => 0
def seenG (g : MapEntry → Int) (es : List MapEntry) (seen : Array Nat) : Int := (es.map fun e => if seen.contains e.born then g e else 0).sum
theorem seenG_none (g : MapEntry → Int) (es : List MapEntry) : seenG g es #[] = 0 := by
  have h0 : ∀ l : List MapEntry, (l.map (fun _ => (0 : Int))).sum = 0 := fun l => by
    induction l with
    | nil => rfl
    | cons a l ih => simp only [List.map_cons, List.sum_cons, ih]; rfl
  have e : (es.map fun e => if (#[] : Array Nat).contains e.born then g e else 0) = es.map (fun _ => (0 : Int)) := List.map_congr_left fun e _ => by simp
  unfold seenG
  rw [e, h0]
theorem seenG_all (g : MapEntry → Int) (es : List MapEntry) (seen : Array Nat) (h : ∀ x ∈ es, seen.contains x.born = true) : seenG g es seen = (es.map g).sum := by
  unfold seenG
  congr 1
  exact List.map_congr_left fun e he => by rw [if_pos (h e he)]
theorem seenG_push (g : MapEntry → Int) (es : List MapEntry) (seen : Array Nat) (e : MapEntry) (hs : seen.contains e.born = false) (hn : (es.map (·.born)).Nodup) (he : e ∈ es) : seenG g es (seen.push e.born) = seenG g es seen + g e := by
  induction es with
  | nil => cases he
  | cons x es ih =>
    simp only [List.map_cons, List.nodup_cons] at hn
    simp only [seenG, List.map_cons, List.sum_cons] at ih ⊢
    rcases List.mem_cons.1 he with rfl | he'
    · have hrest : (es.map fun y => if (seen.push e.born).contains y.born then g y else 0) = es.map fun y => if seen.contains y.born then g y else 0 := by
        apply List.map_congr_left
        intro y hy
        have hne : y.born ≠ e.born := fun q => hn.1 (List.mem_map.2 ⟨y, hy, q⟩)
        rw [contains_push]
        simp [hne]
      have h1 : (seen.push e.born).contains e.born = true := by rw [contains_push]; simp
      rw [hrest, if_pos h1, hs]
      simp only [Bool.false_eq_true, if_false]
      omega
    · rw [ih hn.2 he']
      have hne : x.born ≠ e.born := fun q => hn.1 (q ▸ List.mem_map.2 ⟨e, he', rfl⟩)
      rw [contains_push]
      simp [hne]
      omega

theorem sum_map_eq {es : List MapEntry} {l : Dir} {g : MapEntry → Int} {k : Nat → Int} {ptr : Nat → Value} (hm : es.map (fun e => (e.key, e.val)) = l.map (fun p => (Value.string p.1, ptr p.2))) {gv : Value → Int} (hg : ∀ e, g e = gv e.val) (hk : ∀ p ∈ l, gv (ptr p.2) = k p.2) :
    (es.map g).sum = (l.map (fun p => k p.2)).sum := by
  have h1 : es.map g = (es.map (fun e => (e.key, e.val))).map (fun q => gv q.2) := by simp [List.map_map, Function.comp_def, hg]
  rw [h1, hm, List.map_map]
  congr 1
  exact List.map_congr_left fun p hp => hk p hp

theorem below_setBlock {B : Nat} {a w : World} (h : Below B a w) {r : Nat} (hr : B ≤ r) (o : Obj) : Below B a (Go.ChangeMaps.setBlock w r o) :=
  h.trans ⟨rfl, rfl, rfl, by simp [Go.ChangeMaps.setBlock], fun k hk => by
    show (w.heap.setIfInBounds r o)[k]? = _
    rw [Array.getElem?_setIfInBounds_ne (by omega)]⟩
theorem setBlock_heap {w : World} {r : Nat} {o : Obj} (h : r < w.heap.size) : (Go.ChangeMaps.setBlock w r o).heap[r]? = some o := by
  show (w.heap.setIfInBounds r o)[r]? = _
  simp [h]
theorem entry_of {es : List MapEntry} {fb : List Nat} {l : Dir} (hm : es.map (fun e => (e.key, e.val)) = l.map (fun p => (Value.string p.1, ofFile fb p.2))) {e : MapEntry} (he : e ∈ es) : ∃ p ∈ l, e.key = .string p.1 ∧ e.val = ofFile fb p.2 := by
  have : (e.key, e.val) ∈ es.map (fun e => (e.key, e.val)) := List.mem_map.2 ⟨e, he, rfl⟩
  rw [hm] at this
  obtain ⟨p, hp, e'⟩ := List.mem_map.1 this
  simp only [Prod.mk.injEq] at e'
  exact ⟨p, hp, e'.1.symm, e'.2.symm⟩
theorem DiskRep.fileI {S : Nat → Prop} {w : World} {db : Nat} {s : Dk} {r : Rep} (h : DiskRep S w db s r) {i : Nat} (hlt : i < s.files.length) :
    ∃ f nv sv, s.files[i]? = some f ∧ S (fileB r.fb i) ∧ w.heap[fileB r.fb i]? = some (.cells #[nv, sv] 78 (0, 0)) ∧ BytesIn S w nv f.now ∧ BytesIn S w sv f.safe := by
  obtain ⟨b, nv, sv, h1, h2, h3, h4, h5⟩ := h.files i _ (List.getElem?_eq_getElem hlt)
  have hbe : fileB r.fb i = b := by unfold fileB; rw [List.getD_eq_getElem?_getD, h1]; rfl
  exact ⟨_, nv, sv, List.getElem?_eq_getElem hlt, hbe ▸ h2, hbe ▸ h3, h4, h5⟩

theorem DiskRep.usedIs {S : Nat → Prop} {w : World} {db : Nat} {s : Dk} {r : Rep} (h : DiskRep S w db s r) {es : List MapEntry} (hm : es.map (fun e => (e.key, e.val)) = s.dir.map (fun p => (Value.string p.1, ofFile r.fb p.2))) :
    (es.map (fun e => lenAt w e.val)).sum = used s := by
  refine sum_map_eq hm (gv := lenAt w) (k := fun i => ((nowAt s.files i).length : Int)) (fun e => rfl) (fun p hp => ?_)
  obtain ⟨f, nv, sv, q1, q2, q3, q4, q5⟩ := h.fileI (h.inD p hp)
  obtain ⟨A, c, rfl⟩ := q4.sl
  obtain ⟨⟨x0, x1⟩, xf, xl⟩ := cells2 q3
  simp only [ofFile, fptr, lenAt, x0, nowAt_some q1]

set_option maxRecDepth 100000 in
set_option maxHeartbeats 4000000 in
theorem write_ok (S : Nat → Prop) (db : Nat) (s : Dk) (r : Rep) (n : ByteArray) (v : Value) (data : List Int) (w : World) (h : DiskRep S w db s r) (hn : n.size ≤ 9223372036854775807) (hsrc : Src w v data)
    (hroom : -9223372036854775808 ≤ s.room ∧ s.room ≤ 9223372036854775807) (hfl : ∀ f ∈ s.files, f.now.length ≤ 70368744177664) (hdl : data.length ≤ 70368744177664) :
    Calls Try.prog 58 #[fptr db, .string n, v] w fun e w' => e = .returned (.int .i64 (write n data s).1) ∧ Disk (Grow S w) w' db (write n data s).2 ∧ Touch S w w' := by
  have hlt := (cells8 h.blk).2.2
  have h0 : DiskRep S (w.alloc (.cells #[.string n] 9)) db s r := h.below ((Below.refl _ _).alloc (Nat.le_refl _) _)
  have hthere := there_ok S db (some ⟨w.heap.size, 0, none⟩) 1 1 n [] s r _ h0 (names1 w n) (by simpa using hn) (fun b o e => by cases e; omega)
  have hall : [n].all okName = okName n := by simp
  rw [hall] at hthere
  have hrest := step_rest (okName n) s
  unfold fptr at hthere ⊢
  rcases there_cases (okName n) n s with ⟨i, ht, hfd⟩ | ⟨e1, hz, ht⟩
  · rw [ht] at hthere
    have HT : write n data s = (if left (step (okName n) s).2 < data.length then (60, (step (okName n) s).2) else (0, { (step (okName n) s).2 with files := (step (okName n) s).2.files.modify i (fun f => { f with now := f.now ++ data }) })) := by simp [write, ht]
    rw [HT]
    have HF := Lib.hid hfd
    have hthere2 : Calls Try.prog 61 #[.pointer (some ⟨db, 0, none⟩), .slice (some ⟨w.heap.size, 0, none⟩) 1 1] (w.alloc (.cells #[.string n] 9)) (fun e w' => e = .returned (.tuple #[.pointer (some ⟨fileB r.fb i, 0, none⟩), .int .i64 0]) ∧ DiskRep S w' db (step (okName n) s).2 r ∧ Touch (fun k => k = db) (w.alloc (.cells #[.string n] 9)) w') := hthere
    have HTH := Lib.hid hthere2
    rw [← hrest.2.2.2.2] at hroom
    rw [← hrest.1] at hfl
    clear HT hfd hthere hthere2 ht hall hrest
    generalize (step (okName n) s).2 = s1 at HF HTH hroom hfl ⊢
    by_cases hdec : left s1 < data.length
    · rw [if_pos hdec]
      have HD := Lib.hid hdec
      clear hdec
      obtain ⟨A0, c0, e0, hdl2⟩ := hsrc.len
      go_enter Try.func58, Try.ntmps58
      go_wp2_with fail
      refine HTH.out.mono ?_
      rintro e w1 ⟨rfl, hd, ht⟩
      have hsrc1 : Src w1 v data := (hsrc.below ((Below.refl _ w).alloc (Nat.le_refl _) _)).keep (fun a u ha hu => by
        refine (World.cell?_of_block (ht.block a.block (World.block_lt_of_cell? _ a ha) (fun e => ?_))).trans ha
        obtain ⟨x, rfl⟩ := hu
        have hb := h0.blk
        rw [← e] at hb
        simp only [World.cell?, hb] at ha
        split at ha
        · cases ha
        · match hoff : a.off, ha with
          | 0, ha => simp at ha
          | 1, ha => have := h0.rows.2; rcases this with ⟨e, _⟩ | ⟨_, _, _, e, _⟩ <;> (rw [e] at ha; simp at ha)
          | 2, ha => simp at ha
          | 3, ha => simp at ha
          | 4, ha => have := h0.pend.2; rcases this with ⟨e, _⟩ | ⟨_, _, _, e, _⟩ <;> (rw [e] at ha; simp at ha)
          | 5, ha => simp at ha
          | 6, ha => simp at ha
          | 7, ha => simp at ha
          | m + 8, ha => simp at ha)
      obtain ⟨f, nv, sv, q1, q2, q3, q4, q5⟩ := hd.fileAt HF.out
      have Q1 := Lib.hid q1
      clear q1
      obtain ⟨es, ck, hes, hst, hem⟩ := hd.dir
      obtain ⟨⟨d0, d1, d2, d3, d4, d5, d6, d7⟩, hf', hlt'⟩ := cells8 hd.blk
      have hrg := run_range_map (P := Try.prog) w1 64 9 73 r.dB es ck Try.underlying64 hes
      subst e0
      have hused := hd.usedIs hem
      have HUSED := Lib.hid hused
      clear hused
      go_wp2_with fail
      go_loopw [9] (fun lf wr => ∃ seen, lf = .int .i64 (wrap64 (s1.room - seenG (fun e => lenAt w1 e.val) es.toList seen)) ∧ wr.heap[w1.heap.size]? = some (.mapIter (some r.dB) ck seen ck) ∧ Below w1.heap.size w1 wr) (fun _ wr => (leftOf es (wr.iterSeen w1.heap.size)).size)
      case atStart => exact ⟨#[], by rw [seenG_none]; congr 1; unfold wrap64; omega, World.alloc_heap_new w1 _, (Below.refl _ _).alloc (Nat.le_refl _) _⟩
      case round =>
        obtain ⟨seen, rfl, hit, hB⟩ := hrel
        have hes' : wr.heap[r.dB]? = some (.map es ck) := below_heap hB hes
        rcases run_next_at (P := Try.prog) wr 0 w1.heap.size r.dB ck ck seen es ck hit hes' hst.1 (Nat.le_refl _) with ⟨hz, hnx⟩ | ⟨e, he, wx, hwx, hnx⟩
        · have hall := all_seen es seen hz
          have hL : wrap64 (s1.room - seenG (fun e => lenAt w1 e.val) es.toList seen) = left s1 := by
            rw [seenG_all _ _ _ hall, HUSED.out]
            unfold left
            rw [w64_eq]
          clear hall hz
          generalize wrap64 (s1.room - seenG (fun e => lenAt w1 e.val) es.toList seen) = L at hL ⊢
          have HL := Lib.hid hL
          clear hL
          have hdr : DiskRep S wr db s1 r := hd.below hB
          have q3r := below_heap hB q3
          obtain ⟨⟨z0, z1⟩, zf, zl⟩ := cells2 q3r
          have hcmp : L < data.length := by rw [HL.out]; exact HD.out
          go_wp2
          go_ret
          exact ⟨rfl, ⟨r, hdr.keep (fun _ hs => .inl hs) (fun _ _ _ => rfl)⟩, (((Touch.refl S w).alloc _).trans (ht.mono (fun k _ e => Or.inl (by rw [e]; exact h.sdb)))).trans (Touch.of_below hB)⟩
        · obtain ⟨he1, he2⟩ := mem_left he
          have hsz := (Array.getElem?_eq_some_iff.1 hit).1
          have hwx2 : Below w1.heap.size w1 wx ∧ wx.heap = wr.heap := by
            rcases hwx with rfl | rfl
            · exact ⟨hB, rfl⟩
            · exact ⟨hB.drew, rfl⟩
          have hB2 := below_setBlock hwx2.1 (Nat.le_refl _) (.mapIter (some r.dB) ck (seen.push e.born) ck)
          have hit2 := setBlock_heap (w := wx) (r := w1.heap.size) (o := .mapIter (some r.dB) ck (seen.push e.born) ck) (by rw [hwx2.2]; exact hsz)
          have hen := run_entry_at (P := Try.prog) _ w1.heap.size r.dB ck seen es ck e hit2 (below_heap hB2 hes) he1 hst.2.1
          obtain ⟨p, hp, hk, hv⟩ := entry_of hem he1
          obtain ⟨f2, nv2, sv2, p1, p2, p3, p4, p5⟩ := hd.fileI (hd.inD p hp)
          obtain ⟨A3, c3, rfl⟩ := p4.sl
          have hlen : lenAt w1 e.val = f2.now.length := by
            obtain ⟨⟨x0, x1⟩, _, _⟩ := cells2 p3
            rw [hv]
            simp only [ofFile, fptr, lenAt, x0]
          have hpush := seenG_push (fun e => lenAt w1 e.val) es.toList seen e he2 hst.2.1 he1
          rw [hv] at hen
          rw [hv, hk] at hnx
          rw [hk] at hen
          have p3' := below_heap hB2 p3
          generalize hW2 : Go.ChangeMaps.setBlock wx w1.heap.size (.mapIter (some r.dB) ck (seen.push e.born) ck) = W2 at hB2 hit2 hen hnx p3'
          obtain ⟨⟨z0, z1⟩, zf, zl⟩ := cells2 p3'
          have HP := Lib.hid hpush
          have HLE := Lib.hid hlen
          have HK := Lib.hid hk
          have HV := Lib.hid hv
          have P1 := Lib.hid p1
          clear hpush hlen hk hv hW2 hwx2 hwx p1
          unfold ofFile fptr at hen hnx
          go_wp2
          go_roundw
          case rel =>
            refine ⟨seen.push e.born, ?_, hit2, hB2⟩
            rw [HP.out, HLE.out]
            congr 1
            unfold wrap64
            omega
          case measure =>
            have m1 : W2.iterSeen w1.heap.size = seen.push e.born := by simp [World.iterSeen, hit2]
            have m2 : wr.iterSeen w1.heap.size = seen := by simp [World.iterSeen, hit]
            rw [m1, m2]
            exact left_shrinks es seen e he
    · rw [if_neg hdec]
      have HD := Lib.hid hdec
      clear hdec
      obtain ⟨A0, c0, e0, hdl2⟩ := hsrc.len
      go_enter Try.func58, Try.ntmps58
      go_wp2_with fail
      refine HTH.out.mono ?_
      rintro e w1 ⟨rfl, hd, ht⟩
      have hsrc1 : Src w1 v data := (hsrc.below ((Below.refl _ w).alloc (Nat.le_refl _) _)).keep (fun a u ha hu => by
        refine (World.cell?_of_block (ht.block a.block (World.block_lt_of_cell? _ a ha) (fun e => ?_))).trans ha
        obtain ⟨x, rfl⟩ := hu
        have hb := h0.blk
        rw [← e] at hb
        simp only [World.cell?, hb] at ha
        split at ha
        · cases ha
        · match hoff : a.off, ha with
          | 0, ha => simp at ha
          | 1, ha => have := h0.rows.2; rcases this with ⟨e, _⟩ | ⟨_, _, _, e, _⟩ <;> (rw [e] at ha; simp at ha)
          | 2, ha => simp at ha
          | 3, ha => simp at ha
          | 4, ha => have := h0.pend.2; rcases this with ⟨e, _⟩ | ⟨_, _, _, e, _⟩ <;> (rw [e] at ha; simp at ha)
          | 5, ha => simp at ha
          | 6, ha => simp at ha
          | 7, ha => simp at ha
          | m + 8, ha => simp at ha)
      obtain ⟨f, nv, sv, q1, q2, q3, q4, q5⟩ := hd.fileAt HF.out
      have Q1 := Lib.hid q1
      clear q1
      obtain ⟨es, ck, hes, hst, hem⟩ := hd.dir
      obtain ⟨⟨d0, d1, d2, d3, d4, d5, d6, d7⟩, hf', hlt'⟩ := cells8 hd.blk
      have hrg := run_range_map (P := Try.prog) w1 64 9 73 r.dB es ck Try.underlying64 hes
      subst e0
      have hused := hd.usedIs hem
      have HUSED := Lib.hid hused
      clear hused
      go_wp2_with fail
      go_loopw [9] (fun lf wr => ∃ seen, lf = .int .i64 (wrap64 (s1.room - seenG (fun e => lenAt w1 e.val) es.toList seen)) ∧ wr.heap[w1.heap.size]? = some (.mapIter (some r.dB) ck seen ck) ∧ Below w1.heap.size w1 wr) (fun _ wr => (leftOf es (wr.iterSeen w1.heap.size)).size)
      case atStart => exact ⟨#[], by rw [seenG_none]; congr 1; unfold wrap64; omega, World.alloc_heap_new w1 _, (Below.refl _ _).alloc (Nat.le_refl _) _⟩
      case round =>
        obtain ⟨seen, rfl, hit, hB⟩ := hrel
        have hes' : wr.heap[r.dB]? = some (.map es ck) := below_heap hB hes
        rcases run_next_at (P := Try.prog) wr 0 w1.heap.size r.dB ck ck seen es ck hit hes' hst.1 (Nat.le_refl _) with ⟨hz, hnx⟩ | ⟨e, he, wx, hwx, hnx⟩
        · have hall := all_seen es seen hz
          have hL : wrap64 (s1.room - seenG (fun e => lenAt w1 e.val) es.toList seen) = left s1 := by
            rw [seenG_all _ _ _ hall, HUSED.out]
            unfold left
            rw [w64_eq]
          clear hall hz
          generalize wrap64 (s1.room - seenG (fun e => lenAt w1 e.val) es.toList seen) = L at hL ⊢
          have HL := Lib.hid hL
          clear hL
          have hdr : DiskRep S wr db s1 r := hd.below hB
          have q3r := below_heap hB q3
          obtain ⟨⟨z0, z1⟩, zf, zl⟩ := cells2 q3r
          have hcmp : (data.length : Int) ≤ L := by have := HD.out; rw [HL.out]; omega
          have q4r : BytesIn S wr nv f.now := q4.keep (fun _ hs => hs) (fun k o ho _ _ => below_heap hB ho)
          have q5r : BytesIn S wr sv f.safe := q5.keep (fun _ hs => hs) (fun k o ho _ _ => below_heap hB ho)
          have hfn : f.now.length ≤ 70368744177664 := hfl f (List.mem_of_getElem? Q1.out)
          have hsr := hsrc1.below hB
          have hcc := concat_ok wr.heap.size nv (.slice A0 data.length c0) f.now data (wr.alloc (.cells #[nv, .slice A0 data.length c0] 22)) (World.alloc_heap_new wr _) (q4r.src.below ((Below.refl _ _).alloc (Nat.le_refl _) _)) (hsr.below ((Below.refl _ _).alloc (Nat.le_refl _) _)) (by omega)
          have HCC := Lib.hid hcc
          clear hcc
          obtain ⟨A1, c1, rfl⟩ := q4r.sl
          go_wp2_with (go_at_call 73; refine HCC.out.mono ?_; rintro e w2 ⟨v2, rfl, hv2, hb2⟩; have hbf := below_heap hb2 (alloc_heap q3r (.cells #[.slice A1 f.now.length c1, .slice A0 data.length c0] 22)); obtain ⟨⟨y0, y1⟩, yf, yl⟩ := cells2 hbf; obtain ⟨A2, c2, hv2e⟩ := hv2.sl; rw [hv2e])
          go_ret
          subst hv2e
          have hb3 : Below wr.heap.size wr w2 := ((Below.refl _ _).alloc (Nat.le_refl _) _).trans (hb2.mono (by simp))
          have hwr : w.heap.size ≤ wr.heap.size := by have := ht.size; have := hB.size; simp at *; omega
          have hset : ∀ k o, w2.heap[k]? = some o → et o = some 5 → (w2.setCell ⟨fileB r.fb i, 0, none⟩ (.slice A2 (f.now ++ data).length c2)).heap[k]? = some o := fun k o ho he => by
            rw [Below.heap_setCell _ _ _ _ (fun e => by
              rw [show k = fileB r.fb i from e, hbf] at ho
              cases ho
              cases he)]
            exact ho
          refine ⟨rfl, ⟨r, ?_⟩, ((((Touch.refl S w).alloc _).trans (ht.mono (fun k _ e => Or.inl (by rw [e]; exact h.sdb)))).trans ((Touch.of_below (S := Grow S w) hB).trans (Touch.of_below hb3))).set1 _ 0 (.inl q2) _⟩
          rw [modify_set _ _ _ _ Q1.out]
          have hd2 := hdr.below hb3
          rw [show f.now.length + data.length = (f.now ++ data).length from List.length_append.symm]
          exact hd2.fileTurn (S' := Grow S w) (w' := w2.setCell ⟨fileB r.fb i, 0, none⟩ (.slice A2 (f.now ++ data).length c2)) (fun _ hs => .inl hs) i f { f with now := f.now ++ data } Q1.out (.slice A2 (f.now ++ data).length c2) sv
            (fun k o ho hk => by rw [Below.heap_setCell _ _ _ _ hk]; exact ho) (heap_setCell8 hbf 0 _) (hv2.keep (fun k hk => .inr (by have hk' : (wr.alloc (.cells #[.slice A1 f.now.length c1, .slice A0 data.length c0] 22)).heap.size ≤ k := hk; simp at hk'; omega)) (fun k o ho _ he => hset k o ho he))
            ((q5r.keep (fun _ hs => hs) (fun k o ho _ _ => below_heap hb3 ho)).keep (fun _ hs => .inl hs) (fun k o ho _ he => hset k o ho he))
        · obtain ⟨he1, he2⟩ := mem_left he
          have hsz := (Array.getElem?_eq_some_iff.1 hit).1
          have hwx2 : Below w1.heap.size w1 wx ∧ wx.heap = wr.heap := by
            rcases hwx with rfl | rfl
            · exact ⟨hB, rfl⟩
            · exact ⟨hB.drew, rfl⟩
          have hB2 := below_setBlock hwx2.1 (Nat.le_refl _) (.mapIter (some r.dB) ck (seen.push e.born) ck)
          have hit2 := setBlock_heap (w := wx) (r := w1.heap.size) (o := .mapIter (some r.dB) ck (seen.push e.born) ck) (by rw [hwx2.2]; exact hsz)
          have hen := run_entry_at (P := Try.prog) _ w1.heap.size r.dB ck seen es ck e hit2 (below_heap hB2 hes) he1 hst.2.1
          obtain ⟨p, hp, hk, hv⟩ := entry_of hem he1
          obtain ⟨f2, nv2, sv2, p1, p2, p3, p4, p5⟩ := hd.fileI (hd.inD p hp)
          obtain ⟨A3, c3, rfl⟩ := p4.sl
          have hlen : lenAt w1 e.val = f2.now.length := by
            obtain ⟨⟨x0, x1⟩, _, _⟩ := cells2 p3
            rw [hv]
            simp only [ofFile, fptr, lenAt, x0]
          have hpush := seenG_push (fun e => lenAt w1 e.val) es.toList seen e he2 hst.2.1 he1
          rw [hv] at hen
          rw [hv, hk] at hnx
          rw [hk] at hen
          have p3' := below_heap hB2 p3
          generalize hW2 : Go.ChangeMaps.setBlock wx w1.heap.size (.mapIter (some r.dB) ck (seen.push e.born) ck) = W2 at hB2 hit2 hen hnx p3'
          obtain ⟨⟨z0, z1⟩, zf, zl⟩ := cells2 p3'
          have HP := Lib.hid hpush
          have HLE := Lib.hid hlen
          have HK := Lib.hid hk
          have HV := Lib.hid hv
          have P1 := Lib.hid p1
          clear hpush hlen hk hv hW2 hwx2 hwx p1
          unfold ofFile fptr at hen hnx
          go_wp2
          go_roundw
          case rel =>
            refine ⟨seen.push e.born, ?_, hit2, hB2⟩
            rw [HP.out, HLE.out]
            congr 1
            unfold wrap64
            omega
          case measure =>
            have m1 : W2.iterSeen w1.heap.size = seen.push e.born := by simp [World.iterSeen, hit2]
            have m2 : wr.iterSeen w1.heap.size = seen := by simp [World.iterSeen, hit]
            rw [m1, m2]
            exact left_shrinks es seen e he
  · rw [ht] at hthere
    have HT : write n data s = (e1, (step (okName n) s).2) := by simp [write, ht]
    rw [HT]
    have HTH := Lib.hid hthere
    have b1 : (e1 == 0) = false := beq_eq_false_iff_ne.2 hz
    have b2 : (e1 != 0) = true := bne_iff_ne.2 hz
    clear HT hthere ht hall hz hrest
    dsimp only at HTH
    go_enter Try.func58, Try.ntmps58
    go_wp2_with fail
    refine HTH.out.mono ?_
    rintro e w1 ⟨rfl, hd, ht⟩
    go_wp2
    go_ret
    exact ⟨rfl, ⟨r, hd.keep (fun _ hs => .inl hs) (fun _ _ _ => rfl)⟩, ((Touch.refl S w).alloc _).trans (ht.mono (fun k _ e => Or.inl (by rw [e]; exact h.sdb)))⟩
end Go.Proofs.Ythdncdhgnoggkaa
