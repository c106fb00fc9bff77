/-
  The contract of a disk's Create.
  Conditions: the disk lies in blocks of S; its files and what is pending are few enough for their slices.
-/
import Derived.Test.YthdncdhgnoggkaaChange
set_option linter.unusedSimpArgs false
set_option linter.unusedVariables false
namespace Go.Proofs.Ythdncdhgnoggkaa
open Go.RowKit

theorem DirAt.congr {w : World} {b : Nat} {ptr ptr' : Nat → Value} {l : Dir} (h : DirAt w b ptr l) (he : ∀ p ∈ l, ptr p.2 = ptr' p.2) : DirAt w b ptr' l := by
  obtain ⟨es, c, h1, h2, h3⟩ := h
  refine ⟨es, c, h1, h2, h3.trans ?_⟩
  exact List.map_congr_left fun p hp => by rw [he p hp]
theorem fileB_app {fb : List Nat} {nb i : Nat} (h : i < fb.length) : fileB (fb ++ [nb]) i = fileB fb i := by
  unfold fileB
  rw [List.getD_eq_getElem?_getD, List.getD_eq_getElem?_getD, List.getElem?_append_left h]
theorem entCells_app {fb : List Nat} {nb : Nat} {e : Ent} (h : ∀ i, e.f = some i → i < fb.length) : entCells (fb ++ [nb]) e = entCells fb e := by
  unfold entCells
  cases hf : e.f with
  | none => rfl
  | some i => simp [fileB_app (h i hf)]

section
variable {P : Program} {ops : Array Oper} {rest : List Oper} {o : Oper} {a : Act} {Q : Exit → Act → World → Prop} {w : World}
theorem wpList_lookup_raw (hw : Region.wanted o (yielded ops a.tmps) = true) (m x : Operand) (T : TypeId) (hop : o.op = Op.lookup T m x false) (mv kv v : Value) (hm : a.eval m = mv) (hx : a.eval x = kv)
    (hrun : (Instr.lookup T mv kv false).run P w = .ok v w) (hK : wpList P ops Q rest (a.put o.dst v) w) : wpList P ops Q (o :: rest) a w := by
  refine BigFrame.wpList_want hw fun K' hK' => ?_
  unfold Oper.wp
  simp [execOp, hop, hm, hx, hrun, Result.andThen]
  exact hK' _ _ hK
theorem wpList_len_raw (hw : Region.wanted o (yielded ops a.tmps) = true) (m : Operand) (T : TypeId) (hop : o.op = Op.call { callee := Callee.builtin Builtin.len, args := #[m], argTypes := #[T] }) (mv v : Value) (hm : a.eval m = mv)
    (hrun : ∀ ty, (Builtin.len_ #[T] ty #[mv]).run P w = .ok v w) (hK : wpList P ops Q rest (a.put o.dst v) w) : wpList P ops Q (o :: rest) a w := by
  refine BigFrame.wpList_want hw fun K' hK' => ?_
  unfold Oper.wp
  simp [execOp, hop, resolve, invoke, builtin, hm, hrun, Result.andThen]
  exact hK' _ _ hK
end
theorem flatMap_same {α β : Type} {f g : α → List β} {l : List α} (h : ∀ a ∈ l, f a = g a) : l.flatMap f = l.flatMap g := by
  induction l with
  | nil => rfl
  | cons a l ih => rw [List.flatMap_cons, List.flatMap_cons, h a (by simp), ih (fun b hb => h b (by simp [hb]))]

theorem DiskRep.filesTurn {S S' : Nat → Prop} {w w' : World} {db : Nat} {s : Dk} {r : Rep} (h : DiskRep S w db s r) (hS : ∀ k, S k → S' k) (v : Value) (nb : Nat)
    (hk : ∀ k o, w.heap[k]? = some o → k ≠ db → r.fv.ownBlock ≠ some k → w'.heap[k]? = some o)
    (hb : w'.heap[db]? = some (.cells #[.int .i64 s.room, v, .map (some r.dB), .map (some r.sB), r.pv, .map r.plan, .int .i64 s.steps, .bool s.down] 69 (0, 0)))
    (hp : w'.ownsRow 0 73 1 v (s.files.length + 1) (r.fb.map fptr ++ [fptr nb])) (hpS : ∀ k, v.ownBlock = some k → S' k)
    (hnb : w'.heap[nb]? = some (.cells #[.slice none 0 0, .slice none 0 0] 78 (0, 0))) (hnS : S' nb) (hfresh : nb ∉ r.fb) :
    DiskRep S' w' db { s with files := s.files ++ [⟨[], []⟩] } { r with fv := v, fb := r.fb ++ [nb] } := by
  have hk' : ∀ k o, w.heap[k]? = some o → et o ≠ some 69 → et o ≠ some 73 → w'.heap[k]? = some o := fun k o ho h1 h2 => hk k o ho (fun e => by
    rw [e, h.blk] at ho
    cases ho
    exact h1 rfl) (fun e => own_ne h.rows ho h2 e)
  have hm : ∀ {b : Nat} {es : Array MapEntry} {c : Nat}, w.heap[b]? = some (.map es c) → w'.heap[b]? = w.heap[b]? := fun hb => (hk' _ _ hb (by simp [et]) (by simp [et])).trans hb.symm
  have hl := h.fbl
  exact { sdb := hS _ h.sdb, blk := hb, fbl := by simp [hl], fbn := by
            rw [List.nodup_append]
            exact ⟨h.fbn, by simp, fun a ha b hb => by simp at hb; subst hb; exact fun e => hfresh (e ▸ ha)⟩,
          rows := by simpa using hp, rowS := hpS,
          files := by
            intro i f hf
            by_cases hi : i < s.files.length
            · rw [List.getElem?_append_left hi] at hf
              obtain ⟨b, nv, sv, h1, h2, h3, h4, h5⟩ := (h.files.keep hS (fun k o ho _ he => hk' k o ho (by rcases he with he | he <;> rw [he] <;> simp) (by rcases he with he | he <;> rw [he] <;> simp))) i f hf
              exact ⟨b, nv, sv, by rw [List.getElem?_append_left (by omega)]; exact h1, h2, h3, h4, h5⟩
            · rw [List.getElem?_append_right (by omega)] at hf
              have hi0 : i - s.files.length = 0 := by
                have := (List.getElem?_eq_some_iff.1 hf).1
                simp at this
                omega
              rw [hi0] at hf
              simp at hf
              subst hf
              exact ⟨nb, _, _, by rw [List.getElem?_append_right (by omega), hl, hi0]; rfl, hnS, hnb, BytesIn.nil _ _, BytesIn.nil _ _⟩,
          sdB := hS _ h.sdB,
          dir := (h.dir.of_heap (by obtain ⟨es, c, hh, _⟩ := h.dir; exact hm hh)).congr (fun p hp => by unfold ofFile; rw [fileB_app (by rw [hl]; exact h.inD p hp)]), ssB := hS _ h.ssB,
          sdir := (h.sdir.of_heap (by obtain ⟨es, c, hh, _⟩ := h.sdir; exact hm hh)).congr (fun p hp => by unfold ofFile; rw [fileB_app (by rw [hl]; exact h.inS p hp)]), ne1 := h.ne1,
          pend := by
            have e : s.pend.flatMap (entCells (r.fb ++ [nb])) = s.pend.flatMap (entCells r.fb) := by
              exact flatMap_same (fun a ha => entCells_app (fun i hi => by rw [hl]; exact h.inP a ha i hi))
            show w'.ownsRow 0 75 3 r.pv s.pend.length (s.pend.flatMap (entCells (r.fb ++ [nb])))
            rw [e]
            exact own_keep h.pend (fun k o ho _ he => hk' k o ho (by rw [he]; simp) (by rw [he]; simp)),
          pendS := fun k e => hS _ (h.pendS k e),
          plan := h.plan.keep hS (fun k e => by
            have hp := h.plan
            rw [e] at hp
            obtain ⟨_, es, c, hh, _⟩ := hp
            exact hm hh), ne2 := h.ne2, ne3 := h.ne3,
          inD := fun p hp => by have := h.inD p hp; simp; omega, inS := fun p hp => by have := h.inS p hp; simp; omega, inP := fun e he i hi => by have := h.inP e he i hi; simp; omega }

theorem names1 (w : World) (n : ByteArray) : StrsAt (w.alloc (.cells #[.string n] 9)) (some ⟨w.heap.size, 0, none⟩) 1 [n] :=
  ⟨rfl, by simp, fun _ => ⟨w.heap.size, 0, rfl, fun j hj => by
    obtain rfl : j = 0 := by omega
    simp⟩⟩
theorem info73 : (Try.prog.info? 73).map (fun i => (i.zero, i.size, i.bytes)) = some (some (.pointer none), 1, 8) := by kernel_rfl


theorem step_rest (ok : Bool) (s : Dk) : (step ok s).2.files = s.files ∧ (step ok s).2.pend = s.pend ∧ (step ok s).2.dir = s.dir ∧ (step ok s).2.sdir = s.sdir ∧ (step ok s).2.room = s.room := by
  unfold step
  dsimp only
  repeat' split
  all_goals simp

theorem create_tail {S : Nat → Prop} {db : Nat} {s1 : Dk} {r : Rep} {n : ByteArray} {w1 w2 : World} {g2 cap2 : Nat} (hd : DiskRep S w1 db s1 r) (hp : s1.pend.length ≤ 1099511627776)
    (hown2 : w2.ownsRow 0 73 1 (.slice (some ⟨g2, 0, none⟩) (s1.files.length + 1) cap2) (s1.files.length + 1) (r.fb.map fptr ++ [fptr w1.heap.size]))
    (hg2 : ((w1.alloc (.cells #[.slice none 0 0, .slice none 0 0] 78)).alloc (.cells #[fptr w1.heap.size] 73)).grownBy w2 r.fv.ownBlock)
    (hat2 : r.fv.ownBlock = some g2 ∨ g2 = ((w1.alloc (.cells #[.slice none 0 0, .slice none 0 0] 78)).alloc (.cells #[fptr w1.heap.size] 73)).heap.size) :
    Calls Try.prog 50 #[.pointer (some ⟨db, 0, none⟩), .agg #[.string ⟨#[]⟩, .string n, .pointer (some ⟨w1.heap.size, 0, none⟩)]] (w2.setCell ⟨db, 1, none⟩ (.slice (some ⟨g2, 0, none⟩) (s1.files.length + 1) cap2)) fun e w' => e = .returned (.tuple #[]) ∧
      Disk (Grow S w1) w' db (change ⟨noName, n, some s1.files.length⟩ { s1 with files := s1.files ++ [⟨[], []⟩] }) ∧ Touch S w1 w' := by
  have hsz : w1.heap.size + 2 ≤ w2.heap.size := by have := hg2.size; simp at this; omega
  have hne := own_ne hd.rows hd.blk (by simp [et])
  have hblk2 := grown_heap hg2 (alloc_heap (alloc_heap hd.blk _) _) hne
  have hrow : ∀ k, r.fv.ownBlock = some k → k < w1.heap.size := fun k hk => by
    rcases hd.rows.2 with ⟨e, _⟩ | ⟨g, cap, cur, e, _, hh, _⟩
    · rw [e] at hk; cases hk
    · rw [e] at hk
      have : g = k := by simpa [Value.ownBlock] using hk
      subst this
      exact (Array.getElem?_eq_some_iff.1 hh).1
  have hdb := (cells8 hd.blk).2.2
  have hnb : w2.heap[w1.heap.size]? = some (.cells #[.slice none 0 0, .slice none 0 0] 78 (0, 0)) :=
    grown_heap hg2 (alloc_heap (World.alloc_heap_new w1 _) _) (fun e => by have := hrow _ e; omega)
  have hgS : Grow S w1 g2 := by
    rcases hat2 with e | e
    · exact .inl (hd.rowS _ e)
    · exact .inr (by rw [e]; simp; omega)
  have hfresh : w1.heap.size ∉ r.fb := fun hm => by
    obtain ⟨i, hi, e⟩ := List.getElem_of_mem hm
    have hi' : i < s1.files.length := by rw [← hd.fbl]; exact hi
    have hfi := hd.files i s1.files[i] (List.getElem?_eq_getElem hi')
    obtain ⟨b, nv, sv, h1, h2, h3, _⟩ := hfi
    rw [List.getElem?_eq_getElem hi] at h1
    have := (Array.getElem?_eq_some_iff.1 h3).1
    cases h1
    omega
  have t3 : Touch S w1 (w2.setCell ⟨db, 1, none⟩ (.slice (some ⟨g2, 0, none⟩) (s1.files.length + 1) cap2)) :=
    ((((Touch.refl S w1).alloc _).alloc _).grownBy hg2 (fun k e => .inl (hd.rowS k e))).set1 db 1 (.inl hd.sdb) _
  have r3 : DiskRep (Grow S w1) (w2.setCell ⟨db, 1, none⟩ (.slice (some ⟨g2, 0, none⟩) (s1.files.length + 1) cap2)) db { s1 with files := s1.files ++ [⟨[], []⟩] } { r with fv := .slice (some ⟨g2, 0, none⟩) (s1.files.length + 1) cap2, fb := r.fb ++ [w1.heap.size] } :=
    DiskRep.filesTurn (S' := Grow S w1) (w' := w2.setCell ⟨db, 1, none⟩ (.slice (some ⟨g2, 0, none⟩) (s1.files.length + 1) cap2)) hd (fun _ hs => .inl hs) (.slice (some ⟨g2, 0, none⟩) (s1.files.length + 1) cap2) w1.heap.size
      (fun k o ho hk hne => by
        rw [Below.heap_setCell _ _ _ _ hk]
        exact grown_heap hg2 (alloc_heap (alloc_heap ho _) _) hne)
      (heap_setCell8 hblk2 1 _)
      (own_keep hown2 (fun k o ho hb he => by
        rw [Below.heap_setCell _ _ _ _ ?_]
        · exact ho
        · intro e
          rw [show k = db from e, hblk2] at ho
          cases ho
          cases he))
      (fun k hk => by
        have : g2 = k := by simpa [Value.ownBlock] using hk
        exact this ▸ hgS)
      (by rw [Below.heap_setCell _ _ _ _ (by show w1.heap.size ≠ db; omega)]; exact hnb)
      (.inr (Nat.le_refl _)) hfresh
  have hc := change_ok (Grow S w1) db _ _ noName n (some s1.files.length) _ r3 (fun i hi => by cases hi; simp) hp
  have hx : (some s1.files.length).elim (Value.pointer none) (ofFile (r.fb ++ [w1.heap.size])) = .pointer (some ⟨w1.heap.size, 0, none⟩) := by
    show ofFile (r.fb ++ [w1.heap.size]) s1.files.length = _
    unfold ofFile fileB fptr
    rw [List.getD_eq_getElem?_getD, List.getElem?_append_right (by rw [hd.fbl]; omega), hd.fbl]
    simp
  have hc' := hc.mono (R' := fun e w' => e = .returned (.tuple #[]) ∧ Disk (Grow S w1) w' db (change ⟨noName, n, some s1.files.length⟩ { s1 with files := s1.files ++ [⟨[], []⟩] }) ∧ Touch S w1 w') (fun e w' ⟨h1, h2, h3⟩ =>
    ⟨h1, h2.mono (fun k hk => hk.elim id (fun h => .inr (by have := t3.size; omega))), t3.trans h3⟩)
  have he : (Value.agg #[.string noName, .string n, (some s1.files.length).elim (Value.pointer none) (ofFile (r.fb ++ [w1.heap.size]))]) = .agg #[.string ⟨#[]⟩, .string n, .pointer (some ⟨w1.heap.size, 0, none⟩)] := by rw [hx]; rfl
  rw [← he]
  exact hc'

set_option maxRecDepth 100000 in
set_option maxHeartbeats 2000000 in
theorem create_ok (S : Nat → Prop) (db : Nat) (s : Dk) (r : Rep) (n : ByteArray) (w : World) (h : DiskRep S w db s r) (hn : n.size ≤ 9223372036854775807) (hf : s.files.length ≤ 1099511627776) (hp : s.pend.length ≤ 1099511627776) :
    Calls Try.prog 22 #[fptr db, .string n] w fun e w' => e = .returned (.int .i64 (create n s).1) ∧ Disk (Grow S w) w' db (create n s).2 ∧ Touch S w w' := by
  have hlt := (cells8 h.blk).2.2
  have h0 : DiskRep S (w.alloc (.cells #[.string n] 9)) db s r := h.below ((Below.refl _ _).alloc (Nat.le_refl _) _)
  have hstep := step_ok S db (some ⟨w.heap.size, 0, none⟩) 1 1 [n] s r _ h0 (names1 w n) (by simpa using hn)
  have hall : [n].all okName = okName n := by simp
  rw [hall] at hstep
  generalize hst : step (okName n) s = st at hstep
  have e0 := step_ok0 (okName n) s
  rw [hst] at e0
  have hrest := step_rest (okName n) s
  rw [hst] at hrest
  obtain ⟨e1, s1⟩ := st
  have hf1 : s1.files.length ≤ 1099511627776 := by have := hrest.1; simp at this; rw [this]; exact hf
  have hp1 : s1.pend.length ≤ 1099511627776 := by have := hrest.2.1; simp at this; rw [this]; exact hp
  clear hrest
  have HST := Lib.hid hst
  clear hst hall
  dsimp only at hstep e0
  unfold fptr at hstep ⊢
  have HS := Lib.hid hstep
  clear hstep
  by_cases hz : e1 = 0
  · subst hz
    clear e0
    obtain ⟨i0, hi, hz0, hz1, hz2⟩ := info_parts info73
    have HINFO := Lib.hid hi
    cases hfd : find s1.dir n with
    | none =>
      by_cases h8 : 8 ≤ s1.dir.length
      · have HT : create n s = (3, s1) := by simp [create, HST.out, hfd, h8]
        rw [HT]
        have HF := Lib.hid hfd
        clear HT hfd hi
        go_enter Try.func22, Try.ntmps22
        go_wp2_with fail
        refine HS.out.mono ?_
        rintro e w1 ⟨rfl, hd, ht⟩
        obtain ⟨⟨d0, d1, d2, d3, d4, d5, d6, d7⟩, hf', hlt'⟩ := cells8 hd.blk
        have hlk : (Instr.lookup 64 (.map (some r.dB)) (.string n) false).run Try.prog w1 = .ok (.pointer none) w1 := by
          have := hd.lookD n
          rw [HF.out] at this
          exact this
        have hlen := fun ty => hd.dir.len Try.underlying64 ty
        have HLK := Lib.hid hlk
        have HLEN := Lib.hid hlen
        clear hlk hlen
        go_wp2_with (first
          | (at_lookup; refine wpList_lookup_raw rfl _ _ 64 rfl _ _ _ rfl rfl HLK.out ?_)
          | (at_len; refine wpList_len_raw rfl _ 64 rfl _ _ rfl HLEN.out ?_))
        go_ret
        exact ⟨rfl, ⟨r, hd.keep (fun _ hs => .inl hs) (fun _ _ _ => rfl)⟩, ((Touch.refl S w).alloc _).trans (ht.mono (fun k _ e => Or.inl (by rw [e]; exact h.sdb)))⟩
      · have HT : create n s = (0, change ⟨noName, n, some s1.files.length⟩ { s1 with files := s1.files ++ [⟨[], []⟩] }) := by simp [create, HST.out, hfd, h8]
        rw [HT]
        have HF := Lib.hid hfd
        clear HT hfd hi
        go_enter Try.func22, Try.ntmps22
        go_wp2_with fail
        refine HS.out.mono ?_
        rintro e w1 ⟨rfl, hd, ht⟩
        obtain ⟨⟨d0, d1, d2, d3, d4, d5, d6, d7⟩, hf', hlt'⟩ := cells8 hd.blk
        have hlk : (Instr.lookup 64 (.map (some r.dB)) (.string n) false).run Try.prog w1 = .ok (.pointer none) w1 := by
          have := hd.lookD n
          rw [HF.out] at this
          exact this
        have hlen := fun ty => hd.dir.len Try.underlying64 ty
        have HLK := Lib.hid hlk
        have HLEN := Lib.hid hlen
        clear hlk hlen
        go_wp2_with (first
          | (at_lookup; refine wpList_lookup_raw rfl _ _ 64 rfl _ _ _ rfl rfl HLK.out ?_)
          | (at_len; refine wpList_len_raw rfl _ 64 rfl _ _ rfl HLEN.out ?_)
          | (at_builtin; refine wpList_append_lies _ rfl _ _ 65 rfl 0 73 i0 _ 1 8 Try.underlying65 HINFO.out hz0 hz1 hz2 rfl (by decide) r.fv s1.files.length (r.fb.map fptr) rfl ((hd.rows.alloc _).alloc _) ⟨w1.heap.size + 1, 0, none⟩ 1 1 [fptr w1.heap.size] rfl rfl (by have := cell_one_new (w1.alloc (.cells #[.slice none 0 0, .slice none 0 0] 78)) (fptr w1.heap.size) 73; rw [World.size_alloc] at this; exact this) (by simp [Value.oneCell', fptr]) (by omega) (by unfold maxLen; omega) (by omega) (Nat.zero_le _) _ rfl ?_; intro g2 cap2 w2 hown2 hg2 hat2 hlt2; have hblk2 := grown_heap hg2 (alloc_heap (alloc_heap hd.blk _) _) (own_ne hd.rows hd.blk (by simp [et])); obtain ⟨⟨y0, y1, y2, y3, y4, y5, y6, y7⟩, yf, yl⟩ := cells8 hblk2)
          | (go_at_call 50; refine (create_tail hd hp1 hown2 hg2 hat2).mono ?_; rintro e w3 ⟨rfl, hD3, ht3⟩))
        go_ret
        exact ⟨rfl, hD3.mono (fun k hk => hk.elim .inl (fun h => .inr (by have := ht.size; simp at this; omega))), ((Touch.refl S w).alloc _).trans ((ht.mono (fun k _ e => Or.inl (by rw [e]; exact h.sdb))).trans (ht3.mono (fun k _ hs => .inl (.inl hs))))⟩
    | some i =>
        have HT : create n s = (0, change ⟨noName, n, some s1.files.length⟩ { s1 with files := s1.files ++ [⟨[], []⟩] }) := by simp [create, HST.out, hfd]
        rw [HT]
        have HF := Lib.hid hfd
        clear HT hfd hi
        go_enter Try.func22, Try.ntmps22
        go_wp2_with fail
        refine HS.out.mono ?_
        rintro e w1 ⟨rfl, hd, ht⟩
        obtain ⟨⟨d0, d1, d2, d3, d4, d5, d6, d7⟩, hf', hlt'⟩ := cells8 hd.blk
        have hlk : (Instr.lookup 64 (.map (some r.dB)) (.string n) false).run Try.prog w1 = .ok (.pointer (some ⟨fileB r.fb i, 0, none⟩)) w1 := by
          have := hd.lookD n
          rw [HF.out] at this
          exact this
        have hlen := fun ty => hd.dir.len Try.underlying64 ty
        have HLK := Lib.hid hlk
        have HLEN := Lib.hid hlen
        clear hlk hlen
        go_wp2_with (first
          | (at_lookup; refine wpList_lookup_raw rfl _ _ 64 rfl _ _ _ rfl rfl HLK.out ?_)
          | (at_len; refine wpList_len_raw rfl _ 64 rfl _ _ rfl HLEN.out ?_)
          | (at_builtin; refine wpList_append_lies _ rfl _ _ 65 rfl 0 73 i0 _ 1 8 Try.underlying65 HINFO.out hz0 hz1 hz2 rfl (by decide) r.fv s1.files.length (r.fb.map fptr) rfl ((hd.rows.alloc _).alloc _) ⟨w1.heap.size + 1, 0, none⟩ 1 1 [fptr w1.heap.size] rfl rfl (by have := cell_one_new (w1.alloc (.cells #[.slice none 0 0, .slice none 0 0] 78)) (fptr w1.heap.size) 73; rw [World.size_alloc] at this; exact this) (by simp [Value.oneCell', fptr]) (by omega) (by unfold maxLen; omega) (by omega) (Nat.zero_le _) _ rfl ?_; intro g2 cap2 w2 hown2 hg2 hat2 hlt2; have hblk2 := grown_heap hg2 (alloc_heap (alloc_heap hd.blk _) _) (own_ne hd.rows hd.blk (by simp [et])); obtain ⟨⟨y0, y1, y2, y3, y4, y5, y6, y7⟩, yf, yl⟩ := cells8 hblk2)
          | (go_at_call 50; refine (create_tail hd hp1 hown2 hg2 hat2).mono ?_; rintro e w3 ⟨rfl, hD3, ht3⟩))
        go_ret
        exact ⟨rfl, hD3.mono (fun k hk => hk.elim .inl (fun h => .inr (by have := ht.size; simp at this; omega))), ((Touch.refl S w).alloc _).trans ((ht.mono (fun k _ e => Or.inl (by rw [e]; exact h.sdb))).trans (ht3.mono (fun k _ hs => .inl (.inl hs))))⟩
  · have HT : create n s = (e1, s1) := by simp [create, HST.out, hz]
    rw [HT]
    have b1 : (e1 == 0) = false := beq_eq_false_iff_ne.2 hz
    have b2 : (e1 != 0) = true := bne_iff_ne.2 hz
    clear HT e0 hz
    go_enter Try.func22, Try.ntmps22
    go_wp2_with fail
    refine HS.out.mono ?_
    rintro e w1 ⟨rfl, hd, ht⟩
    go_wp2
    go_ret
    exact ⟨rfl, ⟨r, hd.keep (fun _ hs => .inl hs) (fun _ _ _ => rfl)⟩, ((Touch.refl S w).alloc _).trans (ht.mono (fun k _ e => Or.inl (by rw [e]; exact h.sdb)))⟩
end Go.Proofs.Ythdncdhgnoggkaa
