/-
  The contracts of slices.Clone, slices.Grow and slices.Concat at bytes.
  Conditions: the bytes are few enough for their slices.
-/
import Derived.Test.YthdncdhgnoggkaaOps2
import Derived.Lib.AppendZeros
import Derived.Laws.AppendOwnNone
set_option linter.unusedSimpArgs false
set_option linter.unusedVariables false
namespace Go.Proofs.Ythdncdhgnoggkaa
open Go.RowKit

theorem info5 : (Try.prog.info? 5).map (fun i => (i.zero, i.size, i.bytes)) = some (some (.int .u8 0), 1, 1) := by kernel_rfl
def u8s (xs : List Int) : List Value := xs.map fun x => .int .u8 x

theorem own_bytes {w : World} {base n : Nat} {v : Value} {xs : List Int} (h : w.ownsRow base 5 1 v n (u8s xs)) (hl : xs.length ≤ 140737488355328) : BytesIn (fun k => base ≤ k) w v xs := by
  have hn : n = xs.length := by have := h.1; simp [u8s] at this; exact this.symm
  subst hn
  rcases h.2 with ⟨rfl, e⟩ | ⟨g, cap, cur, rfl, hb, hh, h1, h2, h3, h4⟩
  · exact ⟨none, 0, by rw [e], ⟨fun _ => rfl, by omega⟩, hl, fun hp => by omega⟩
  · refine ⟨_, cap, rfl, ⟨(fun e => by cases e), h1⟩, hl, fun hp => ⟨g, 0, cur, (0, 0), rfl, hb, hh, fun j hj => ?_⟩⟩
    have := congrArg (fun l => l[j]?) h4
    simp only [List.getElem?_take, u8s, List.getElem?_map] at this
    rw [if_pos (by omega), List.getElem?_eq_getElem hj] at this
    simp only [Option.map_some, Array.getElem?_toList] at this
    rw [Nat.zero_add, this, List.getD_eq_getElem?_getD, List.getElem?_eq_getElem hj]
    rfl
theorem BytesIn.cellsOf {S : Nat → Prop} {w : World} {b o c : Nat} {xs : List Int} (h : BytesIn S w (.slice (some ⟨b, o, none⟩) xs.length c) xs) : ∀ j u, (u8s xs)[j]? = some u → w.cell? ((⟨b, o, none⟩ : Addr).add j) = some u := by
  intro j u hj
  obtain ⟨A, c', e, hz, hl, hr⟩ := h
  simp only [u8s, List.getElem?_map, Option.map_eq_some_iff] at hj
  obtain ⟨x, hx, rfl⟩ := hj
  have hjl := (List.getElem?_eq_some_iff.1 hx).1
  obtain ⟨b2, o2, cur, fr, e2, hS, hh, hc⟩ := hr (by omega)
  rw [e2] at e
  cases e
  have := hc j hjl
  rw [List.getD_eq_getElem?_getD, hx] at this
  have ha : (⟨b, o, none⟩ : Addr).add j = ⟨b, o + j, none⟩ := by unfold Addr.add; split <;> simp_all
  rw [ha]
  simp [World.cell?, hh, this]
theorem BytesIn.addr {S : Nat → Prop} {w : World} {v : Value} {xs : List Int} (h : BytesIn S w v xs) : (v = .slice none 0 0 ∧ xs = []) ∨ ∃ ad c, v = .slice (some ad) xs.length c ∧ (0 < xs.length → ad.spot = none) := by
  obtain ⟨A, c, e, hz, hl, hr⟩ := h
  cases A with
  | none =>
    cases xs with
    | nil => exact .inl ⟨by rw [e, hz.1 rfl]; rfl, rfl⟩
    | cons x xs => obtain ⟨b, o, _, _, e2, _⟩ := hr (by simp); cases e2
  | some ad =>
    refine .inr ⟨ad, c, e, fun hp => ?_⟩
    obtain ⟨b, o, _, _, e2, _⟩ := hr hp
    cases e2; rfl
theorem BytesIn.news {S : Nat → Prop} {w : World} {ad : Addr} {c : Nat} {xs : List Int} (h : BytesIn S w (.slice (some ad) xs.length c) xs) : ∀ j u, (u8s xs)[j]? = some u → w.cell? (ad.add j) = some u := by
  intro j u hj
  have hj0 := hj
  simp only [u8s, List.getElem?_map, Option.map_eq_some_iff] at hj
  obtain ⟨x, hx, rfl⟩ := hj
  have hjl := (List.getElem?_eq_some_iff.1 hx).1
  have h' := h
  obtain ⟨A, c', e, hz, hl, hr⟩ := h
  obtain ⟨b2, o2, cur, fr, e2, hS, hh, hc⟩ := hr (by omega)
  rw [e2] at e
  cases e
  exact h'.cellsOf j _ hj0

/-- A new row of bytes. -/
def GivesBytes (w : World) (xs : List Int) (e : Ending) (w' : World) : Prop := ∃ v, e = .returned v ∧ BytesIn (fun k => w.heap.size ≤ k) w' v xs ∧ Below w.heap.size w w'

theorem u8s_one (xs : List Int) : ∀ u ∈ u8s xs, u.oneCell' = true := by
  intro u hu
  obtain ⟨x, _, rfl⟩ := List.mem_map.1 hu
  rfl

set_option maxRecDepth 100000 in
set_option maxHeartbeats 2000000 in
theorem sclone_ok (S : Nat → Prop) (v : Value) (xs : List Int) (w : World) (h : BytesIn S w v xs) : Calls Try.prog 64 #[v] w (GivesBytes w xs) := by
  have hlen : xs.length ≤ 140737488355328 := by obtain ⟨_, _, _, _, hl, _⟩ := h; exact hl
  obtain ⟨i0, hi, hz0, hz1, hz2⟩ := info_parts info5
  have HINFO := Lib.hid hi
  clear hi
  rcases h.addr with ⟨rfl, rfl⟩ | ⟨ad, c, rfl, hsp⟩
  · have hq := Lib.run_eql_slice_nil (P := Try.prog) w 22 5 none 0 0 0 0 Try.underlying22
    go_enter Try.func64, Try.ntmps64
    go_wp2
    go_ret
    exact ⟨_, rfl, BytesIn.nil _ _, Below.refl _ _⟩
  · have hq := Lib.run_eql_slice_nil (P := Try.prog) w 22 5 (some ad) xs.length c 0 0 Try.underlying22
    have hown : (w.alloc (.cells #[] 5)).ownsRow w.heap.size 5 1 (.slice (some ⟨w.heap.size, 0, none⟩) 0 0) 0 [] := ⟨rfl, .inr ⟨w.heap.size, 0, #[], rfl, Nat.le_refl _, World.alloc_heap_new w _, Nat.le_refl _, by unfold maxLen; omega, rfl, rfl⟩⟩
    have hb := h.keep (S' := S) (w' := w.alloc (.cells #[] 5)) (fun _ hs => hs) (fun k o ho _ _ => alloc_heap ho _)
    go_enter Try.func64, Try.ntmps64
    go_wp2_with (at_builtin; refine wpList_append_own_at _ rfl _ _ 22 rfl w.heap.size 5 i0 _ 1 1 Try.underlying22 HINFO.out hz0 hz1 hz2 rfl (by decide) (.slice (some ⟨w.heap.size, 0, none⟩) 0 0) 0 [] rfl hown ad xs.length c (u8s xs) rfl (by simp [u8s]) hb.news (u8s_one xs) (by unfold maxLen; omega) (by omega) (by simp) ?_; intro v2 w2 hown2 hg2 _ hat2)
    go_ret
    have hB : Below w.heap.size w w2 := ((Below.refl _ w).alloc (Nat.le_refl _) _).grown hg2 (by simp) (fun k e => Nat.le_of_eq (by simpa [Value.ownBlock] using e))
    exact ⟨_, rfl, own_bytes (n := 0 + xs.length) (by simpa using hown2) hlen, hB⟩

set_option maxRecDepth 100000 in
set_option maxHeartbeats 2000000 in
theorem grow_ok (n : Nat) (w : World) (hn : n ≤ 140737488355328) : Calls Try.prog 79 #[.slice none 0 0, .int .i64 n] w fun e w' => (∃ v, e = .returned v ∧ w'.ownsRow w.heap.size 5 1 v 0 []) ∧ Below w.heap.size w w' := by
  obtain ⟨i0, hi, hz0, hz1, hz2⟩ := info_parts info5
  have HINFO := Lib.hid hi
  clear hi
  by_cases h0 : 0 < n
  · have hz : 0 < i0.size := by omega
    have hap := fun ty => Lib.run_append_nil_zeros (P := Try.prog) w 22 3 ty 5 i0 _ .i64 .i64 Try.underlying22 Try.underlying3 HINFO.out hz0 n h0 hz (by omega) (by rw [hz2]; omega)
    have HAP := Lib.hid hap
    clear hap
    go_enter Try.func79, Try.ntmps79
    go_wp2_with (at_builtin; refine Lib.wpList_append_run _ rfl _ _ _ _ rfl _ _ rfl rfl _ _ (HAP.out _) ?_)
    go_ret
    refine ⟨⟨_, rfl, ⟨rfl, .inr ⟨w.heap.size, grownCap w n 0 5, _, rfl, Nat.le_refl _, World.alloc_heap_new w _, Nat.zero_le _, grownCap_le_maxLen _ _ _ _ (by unfold maxLen; omega), ?_, by simp⟩⟩⟩, ((Below.refl _ w).alloc (Nat.le_refl _) _).drew⟩
    have := grownCap_ge w n 0 5
    simp [Builtin.zeroCells]
    omega
  · obtain rfl : n = 0 := by omega
    go_enter Try.func79, Try.ntmps79
    go_wp2
    go_ret
    exact ⟨⟨_, rfl, ⟨rfl, .inl ⟨rfl, rfl⟩⟩⟩, Below.refl _ _⟩

theorem own_base {w : World} {base : Nat} {e : TypeId} {size : Nat} {v : Value} {n : Nat} {xs : List Value} (h : w.ownsRow base e size v n xs) {k : Nat} (hk : v.ownBlock = some k) : base ≤ k := by
  rcases h.2 with ⟨rfl, _⟩ | ⟨g, cap, cur, rfl, hb, _⟩
  · simp [Value.ownBlock] at hk
  · have : g = k := by simpa [Value.ownBlock] using hk
    omega
theorem BytesIn.len {S : Nat → Prop} {w : World} {v : Value} {xs : List Int} (h : BytesIn S w v xs) : ∃ A c, v = .slice A xs.length c ∧ xs.length ≤ 140737488355328 := by
  obtain ⟨A, c, e, _, hl, _⟩ := h
  exact ⟨A, c, e, hl⟩

/-- Bytes that can be read, wherever they lie. -/
def Src (w : World) (v : Value) (xs : List Int) : Prop :=
  xs.length ≤ 140737488355328 ∧ ((v = .slice none 0 0 ∧ xs = []) ∨ ∃ ad c, v = .slice (some ad) xs.length c ∧ ∀ j u, (u8s xs)[j]? = some u → w.cell? (ad.add j) = some u)
theorem BytesIn.src {S : Nat → Prop} {w : World} {v : Value} {xs : List Int} (h : BytesIn S w v xs) : Src w v xs := by
  refine ⟨by obtain ⟨_, _, _, _, hl, _⟩ := h; exact hl, ?_⟩
  rcases h.addr with h' | ⟨ad, c, rfl, _⟩
  · exact .inl h'
  · exact .inr ⟨ad, c, rfl, h.news⟩
theorem Src.keep {w w' : World} {v : Value} {xs : List Int} (h : Src w v xs) (hk : ∀ a u, w.cell? a = some u → (∃ x, u = .int .u8 x) → w'.cell? a = some u) : Src w' v xs := by
  refine ⟨h.1, h.2.imp id ?_⟩
  rintro ⟨ad, c, e, hc⟩
  refine ⟨ad, c, e, fun j u hj => hk _ _ (hc j u hj) ?_⟩
  simp only [u8s, List.getElem?_map, Option.map_eq_some_iff] at hj
  obtain ⟨x, _, rfl⟩ := hj
  exact ⟨x, rfl⟩
theorem Src.below {w w' : World} {v : Value} {xs : List Int} (h : Src w v xs) (hb : Below w.heap.size w w') : Src w' v xs :=
  h.keep fun a u ha _ => (hb.cell (World.block_lt_of_cell? w a ha)).trans ha
theorem Src.len {w : World} {v : Value} {xs : List Int} (h : Src w v xs) : ∃ A c, v = .slice A xs.length c ∧ xs.length ≤ 140737488355328 := by
  rcases h.2 with ⟨e, e2⟩ | ⟨ad, c, e, _⟩
  · subst e2; exact ⟨none, 0, e, by simp⟩
  · exact ⟨_, c, e, h.1⟩

/-- how much has come behind k rounds -/
def upto2 {α : Type} (xs ys : List α) : Nat → List α
  | 0 => []
  | 1 => xs
  | _ => xs ++ ys

set_option maxRecDepth 100000 in
set_option maxHeartbeats 4000000 in
theorem concat_ok (b : Nat) (v1 v2 : Value) (xs ys : List Int) (w : World) (hb : w.heap[b]? = some (.cells #[v1, v2] 22 (0, 0))) (h1 : Src w v1 xs) (h2 : Src w v2 ys) (hl : xs.length + ys.length ≤ 140737488355328) :
    Calls Try.prog 73 #[.slice (some ⟨b, 0, none⟩) 2 2] w (GivesBytes w (xs ++ ys)) := by
  obtain ⟨i0, hi, hz0, hz1, hz2⟩ := info_parts info5
  have HINFO := Lib.hid hi
  clear hi
  obtain ⟨A1, c1, e1, hl1⟩ := h1.len
  obtain ⟨A2, c2, e2, hl2⟩ := h2.len
  obtain ⟨⟨x0, x1⟩, xf, xl⟩ := cells2 hb
  have hsrc : ∀ k, k < 2 → ∃ v zs A c, w.cell? ⟨b, k, none⟩ = some v ∧ Src w v zs ∧ v = .slice A zs.length c ∧ upto2 xs ys (k + 1) = upto2 xs ys k ++ zs := fun k hk => by
    match k, hk with
    | 0, _ => exact ⟨v1, xs, A1, c1, x0, h1, e1, rfl⟩
    | 1, _ => exact ⟨v2, ys, A2, c2, x1, h2, e2, rfl⟩
  have htot : ∀ k, k ≤ 2 → (upto2 xs ys k).length ≤ 140737488355328 := fun k hk => by
    match k, hk with
    | 0, _ => simp [upto2]
    | 1, _ => simp only [upto2]; omega
    | 2, _ => simp only [upto2, List.length_append]; omega
  have SRC := Lib.hid hsrc
  have TOT := Lib.hid htot
  clear hsrc htot x0 x1 e1 e2
  go_enter Try.func73, Try.ntmps73
  go_wp2_with fail
  go_loop [3, 11] (fun sz i => ∃ k : Nat, k ≤ 2 ∧ i = .int .i64 k ∧ sz = .int .i64 ((upto2 xs ys k).length)) (fun _ i => 2 - (intOf i).toNat)
  case atStart => exact ⟨0, by omega, rfl, rfl⟩
  case round =>
    obtain ⟨k, hk, rfl, rfl⟩ := hrel
    by_cases hlt : k < 2
    · obtain ⟨v, zs, A, c, hc, hbz, rfl, hup⟩ := SRC.out k hlt
      have hlen : (upto2 xs ys (k + 1)).length = (upto2 xs ys k).length + zs.length := by rw [hup, List.length_append]
      have hle := TOT.out (k + 1) (by omega)
      rw [hlen] at hle
      have HLEN := Lib.hid hlen
      clear hup hlen
      go_wp2
      go_round
      case rel => exact ⟨k + 1, by omega, by go_num, by rw [HLEN.out]; go_num⟩
      case measure => simp [intOf]; omega
    · obtain rfl : k = 2 := by omega
      have hle := TOT.out 2 (by omega)
      generalize hN : (upto2 xs ys 2).length = N at hle ⊢
      clear hN
      go_wp2_with (go_at_call 79; refine (grow_ok N _ hle).mono ?_; rintro e w1 ⟨⟨v0, rfl, hown⟩, hb1⟩)
      go_loopw [6, 27] (fun v i wr => ∃ k : Nat, k ≤ 2 ∧ i = .int .i64 k ∧ wr.ownsRow w.heap.size 5 1 v (upto2 xs ys k).length (u8s (upto2 xs ys k)) ∧ Below w.heap.size w wr) (fun _ i _ => 2 - (intOf i).toNat)
      case atStart => exact ⟨0, by omega, rfl, hown, hb1⟩
      case round =>
        obtain ⟨k, hk, rfl, hown2, hb2⟩ := hrel
        by_cases hlt : k < 2
        · obtain ⟨v, zs, A, c, hc, hbz, rfl, hup⟩ := SRC.out k hlt
          have hc' : wr.cell? ⟨b, k, none⟩ = some (.slice A zs.length c) := (hb2.cell (p := ⟨b, k, none⟩) xl).trans hc
          have hle := TOT.out (k + 1) (by omega)
          rw [hup, List.length_append] at hle
          have HUP := Lib.hid hup
          clear hup
          have hbz' : Src wr (.slice A zs.length c) zs := hbz.keep (fun a u ha _ => (hb2.cell (World.block_lt_of_cell? w a ha)).trans ha)
          rcases hbz'.2 with ⟨e0, rfl⟩ | ⟨ad, c', e0, hnews⟩
          · cases e0
            go_wp2_with (at_builtin; refine wpList_append_own_none rfl _ _ 22 rfl w.heap.size 5 i0 1 Try.underlying22 HINFO.out _ _ _ rfl hown2 rfl ?_)
            go_roundw
            case rel => exact ⟨k + 1, by omega, by go_num, by rw [HUP.out, List.append_nil]; exact hown2, hb2⟩
            case measure => simp [intOf]; omega
          · cases e0
            go_wp2_with (at_builtin; refine wpList_append_own_at _ rfl _ _ 22 rfl w.heap.size 5 i0 _ 1 1 Try.underlying22 HINFO.out hz0 hz1 hz2 rfl (by decide) u6 _ _ rfl hown2 ad zs.length c (u8s zs) rfl (by simp [u8s]) hnews (u8s_one zs) (by unfold maxLen; omega) (by omega) hb2.size ?_; intro v3 w3 hown3 hg3 _ hat3)
            have hB3 := hb2.grown hg3 hb2.size (fun k e => own_base hown2 e)
            go_roundw
            case rel =>
              refine ⟨k + 1, by omega, by go_num, ?_, hB3⟩
              rw [HUP.out, List.length_append]
              have e : u8s (upto2 xs ys k ++ zs) = u8s (upto2 xs ys k) ++ u8s zs := by simp [u8s]
              rw [e]
              exact hown3
            case measure => simp [intOf]; omega
        · obtain rfl : k = 2 := by omega
          go_wp2
          go_ret
          exact ⟨_, rfl, own_bytes hown2 (by simp only [upto2, List.length_append]; omega), hb2⟩
end Go.Proofs.Ythdncdhgnoggkaa
