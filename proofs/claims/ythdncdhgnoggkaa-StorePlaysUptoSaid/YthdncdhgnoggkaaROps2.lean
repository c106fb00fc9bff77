/-
  The contracts of the reference's Read and Write.
  Conditions: lists are no longer than Go allows.
-/
import Derived.Test.YthdncdhgnoggkaaRBytes
set_option linter.unusedSimpArgs false
set_option linter.unusedVariables false
namespace Go.Proofs.Ythdncdhgnoggkaa
open Go.RowKit
attribute [local go_sem ↓] Go.wp_at_zero Go.wp_at_succ

def RReadP (S : Nat → Prop) (w : World) (db : Nat) (t : Int × Option (List Int) × RDk) (e : Ending) (w' : World) : Prop :=
  ∃ v, e = .returned (.tuple #[v, .int .i64 t.1]) ∧ BytesIn (fun k => w.heap.size ≤ k) w' v (t.2.1.getD []) ∧ RAfter S w db t.2.2 w'

theorem below_drewN (w : World) (n : Nat) : Below w.heap.size w (w.drewN n) := ⟨rfl, rfl, rfl, Nat.le_refl _, fun _ _ => rfl⟩
def rusedTo (s : RDk) (k : Nat) : Int := ((s.dir.take k).map (fun p => ((nowAt s.files p.2.toNat).length : Int))).sum
theorem rusedTo_succ {s : RDk} {k : Nat} {p : ByteArray × Int} (h : s.dir[k]? = some p) : rusedTo s (k + 1) = rusedTo s k + ((nowAt s.files p.2.toNat).length : Int) := by
  unfold rusedTo
  rw [List.take_add_one, h]
  simp
theorem rusedTo_all {s : RDk} {k : Nat} (h : s.dir.length ≤ k) : rusedTo s k = rused s := by
  unfold rusedTo rused
  rw [List.take_of_length_le h]
theorem nowAt_le {M : Nat} {fs : List Fil} (h : ∀ f ∈ fs, f.now.length ≤ M ∧ f.safe.length ≤ M) (i : Nat) : (nowAt fs i).length ≤ M := by
  unfold nowAt
  cases hf : fs[i]? with
  | none => simp
  | some f => exact (h f (List.mem_of_getElem? hf)).1
theorem rusedTo_bd {M : Nat} {s : RDk} (h : ∀ f ∈ s.files, f.now.length ≤ M ∧ f.safe.length ≤ M) : ∀ k, 0 ≤ rusedTo s k ∧ rusedTo s k ≤ ((k * M : Nat) : Int) := by
  intro k
  induction k with
  | zero => simp [rusedTo]
  | succ k ih =>
    cases hp : s.dir[k]? with
    | none =>
      have hl := List.getElem?_eq_none_iff.1 hp
      rw [rusedTo_all (by omega)]
      rw [rusedTo_all hl] at ih
      have : k * M ≤ (k + 1) * M := Nat.mul_le_mul_right _ (by omega)
      omega
    | some p =>
      rw [rusedTo_succ hp]
      have := nowAt_le h p.2.toNat
      have e : (k + 1) * M = k * M + M := by rw [Nat.add_mul, Nat.one_mul]
      omega

set_option maxRecDepth 100000 in
set_option maxHeartbeats 4000000 in
theorem rread_ok (S : Nat → Prop) (db : Nat) (s : RDk) (n : ByteArray) (w : World) (N M : Nat) (h : RDisk S w db s) (hn : n.size ≤ 9223372036854775807) (hfit : RFit N M s) (hN : N ≤ 549755813888) :
    Calls Try.prog 46 #[fptr db, .string n] w (RReadP S w db (rread n s)) := by
  obtain ⟨r, h⟩ := h
  unfold fptr
  have HS := Lib.hid (rstep_ok S db n n s r w h hn hn)
  have hsd := Lib.hid h.sdb
  have hf1 := rfit_step hfit (okName n)
  unfold fptr at HS
  rw [Bool.and_self] at HS
  have HFO := Lib.hid (fun f hf => rfile_of h (okName n) (n := n) (f := f) hf)
  clear h
  rcases rthere_cases (okName n) n s with ⟨e0, he0, h1, h2⟩ | ⟨h1, h2, h3⟩ | ⟨h1, f, h2, h3⟩
  · have HE : rread n s = (e0, none, (rstep (okName n) s).2) := by unfold rread; rw [h2]
    rw [HE]
    rw [h1] at HS
    have hb : (e0 != 0) = true := by simpa using he0
    clear HE h1 h2 he0
    go_enter Try.func46, Try.ntmps46
    go_wp2_with (go_at_call 51; refine HS.out.mono ?_; rintro e w1 ⟨rfl, hd1, ht1⟩)
    go_ret2
    exact ⟨_, rfl, BytesIn.nil _ _, rafter_step hd1 hsd.out ht1⟩
  · have HE : rread n s = (63, none, (rstep (okName n) s).2) := by unfold rread; rw [h3]
    rw [HE]
    rw [h1] at HS
    have HAT : Hid (∀ w1, RDiskRep S w1 db (rstep (okName n) s).2 r → Calls Try.prog 52 #[r.dv, .string n] w1 fun e w' => e = .returned (.int .i64 (-1)) ∧ w' = w1) := fun w1 hd => at_none S r.dv _ n w1 hd.dir h2
    clear HE h1 h2 h3
    generalize (rstep (okName n) s).2 = s1 at *
    go_enter Try.func46, Try.ntmps46
    go_wp2_with (first | (go_at_call 51; refine HS.out.mono ?_; rintro e w1 ⟨rfl, hd1, ht1⟩; obtain ⟨⟨c0, c1, c2, c3, c4, c5, c6, c7, c8⟩, cf, clt⟩ := cells9 hd1.blk; obtain ⟨Ad, cd, hdv, _, _⟩ := hd1.dir.sl; have hat := HAT.out w1 hd1; rw [hdv] at c2 hat; have HDV := Lib.hid hdv; have HD1 := Lib.hid hd1; clear hd1 hdv) | (go_at_call 52; refine hat.mono ?_; rintro e w2 ⟨rfl, rfl⟩))
    go_ret2
    exact ⟨_, rfl, BytesIn.nil _ _, rafter_step HD1.out hsd.out ht1⟩
  · obtain ⟨m, rfl, hml⟩ := HFO.out f h2
    have hfl : (rstep (okName n) s).2.files.length = s.files.length := by rw [(rstep_rest (okName n) s).1]
    rw [← hfl] at hml
    have HE : rread n s = (0, some (nowAt (rstep (okName n) s).2.files (m : Int).toNat), (rstep (okName n) s).2) := by unfold rread; rw [h3]
    rw [HE]
    rw [h1] at HS
    have HAT : Hid (∀ w1, RDiskRep S w1 db (rstep (okName n) s).2 r → Calls Try.prog 52 #[r.dv, .string n] w1 (AtI (rstep (okName n) s).2.dir n m w1)) := fun w1 hd => at_some S r.dv _ n m w1 hd.dir h2
    clear HE h1 h2 h3 hfl HFO
    generalize (rstep (okName n) s).2 = s1 at *
    try dsimp only
    go_enter Try.func46, Try.ntmps46
    go_wp2_with (first | (go_at_call 51; refine HS.out.mono ?_; rintro e w1 ⟨rfl, hd1, ht1⟩; obtain ⟨⟨c0, c1, c2, c3, c4, c5, c6, c7, c8⟩, cf, clt⟩ := cells9 hd1.blk; obtain ⟨Ad, cd, hdv, _, _⟩ := hd1.dir.sl; have hat := HAT.out w1 hd1; rw [hdv] at c2 hat; have HDV := Lib.hid hdv; have HD1 := Lib.hid hd1; clear hd1 hdv) | (go_at_call 52; refine hat.mono ?_; rintro e w2 ⟨i, rfl, hi, rfl⟩; have HI := Lib.hid hi; obtain ⟨bd, hbd, _, q0, q1⟩ := EntsIn.cells (by have := HD1.out.dir; rw [HDV.out] at this; exact this) hi; have hil := (List.getElem?_eq_some_iff.1 hi).1; subst hbd; clear hi; clear hat) )
    obtain ⟨x, hx⟩ : ∃ x, s1.files[m]? = some x := ⟨_, List.getElem?_eq_getElem hml⟩; obtain ⟨g, cap, q, hlv, hg0, hgd, hgl, hq, g0, g1, gf, b1, b2⟩ := HD1.out.fileAt hx; obtain ⟨v0, v1⟩ := q; dsimp only at g0 g1 b1 b2; obtain ⟨A0, e0, ev0⟩ := b1.sl; subst ev0; obtain ⟨A1, e1, ev1⟩ := b2.sl; subst ev1; rw [hlv] at c1; have HX := Lib.hid hx; have HLV := Lib.hid hlv; have HQ := Lib.hid hq; have HB1 := Lib.hid b1; have HB2 := Lib.hid b2; clear hx hlv hq b1 b2; have i1 : (0 : Int) ≤ (i : Int) := (by omega); have i2 : (i : Int) < (s1.dir.length : Int) := (by omega); have m1 : (0 : Int) ≤ (m : Int) := (by omega); have m2 : (m : Int) < (s1.files.length : Int) := (by omega); have hdi : decide ((i : Int) < 0) = false := (by simp)
    have hb1 := HB1.out.src
    have HSRC := Lib.hid hb1
    clear hb1
    have hxl : x.now.length ≤ 140737488355328 := HSRC.out.1
    have n1 := World.new_ne w2 _ c1
    have n2 := World.new_ne w2 _ q1
    have n3 := World.new_ne w2 _ g0
    dsimp only at n1 n2 n3
    go_region_held3 (fun w' => w'.cell? ⟨db, 1, none⟩ = some (.slice (some ⟨g, 0, none⟩) s1.files.length cap) ∧ w'.cell? ⟨db, 2, none⟩ = some (.slice (some ⟨bd, 0, none⟩) s1.dir.length cd) ∧ w'.cell? ⟨bd, i * 2 + 1, none⟩ = some (.int .i64 m) ∧ w'.cell? ⟨g, m * 2, none⟩ = some (.slice A0 x.now.length e0))
      (first
        | go_keep)
      ((refine step_append_src (by rfl) (.tmp 23) (.tmp 38) (by rfl) w2.heap.size (.slice (some ⟨w2.heap.size, 0, none⟩) 0 0) (.slice A0 x.now.length e0) 0 [] x.now (by rfl) (by rfl) (World.ownsRow.drew (own_made w2 (0, 0) rfl)) (HSRC.out.below ((Below.refl _ w2).alloc (Nat.le_refl _) _).drew) (by omega) (by simp) ?_; intro A3 c3 w3 hown3 hg3 hat3; have hb3 : Below w2.heap.size w2 w3 := ((Below.refl _ w2).alloc (Nat.le_refl _) _).drew.grown hg3 (by simp) (fun k e => Nat.le_of_eq (by simpa [Value.ownBlock] using e)); have z1 := (hb3.cell (World.block_lt_of_cell? _ _ c1)).trans c1; have z2 := (hb3.cell (World.block_lt_of_cell? _ _ c2)).trans c2; have z3 := (hb3.cell (World.block_lt_of_cell? _ _ q1)).trans q1; have z4 := (hb3.cell (World.block_lt_of_cell? _ _ g0)).trans g0))
    go_wp2
    go_ret2
    have hv : BytesIn (fun k => w2.heap.size ≤ k) w3 _ x.now := own_bytes (by simpa using hown3) hxl
    have hnow : nowAt s1.files (m : Int).toNat = x.now := nowAt_some (by rw [Int.toNat_natCast]; exact HX.out)
    refine ⟨_, rfl, ?_, ?_⟩
    · show BytesIn _ _ _ (nowAt s1.files (m : Int).toNat)
      rw [hnow]
      exact (hv.keep (fun k hk => Nat.le_trans ht1.size hk) (fun k o ho _ _ => ho))
    · have ha := rafter_step HD1.out hsd.out ht1
      have ha3 : RAfter S w db s1 w3 := ⟨ha.1.below hb3, ha.2.trans (Touch.of_below hb3)⟩
      exact ha3

set_option maxRecDepth 100000 in
set_option maxHeartbeats 4000000 in
theorem rwrite_ok (S : Nat → Prop) (db : Nat) (s : RDk) (n : ByteArray) (data : List Int) (v : Value) (w : World) (N M : Nat) (h : RDisk S w db s) (hn : n.size ≤ 9223372036854775807) (hsrc : Src w v data) (hout : Out S v) (hfit : RFit N M s) (hN : N ≤ 549755813888) (hNM : N * M ≤ 9223372036854775807) (hMd : M + data.length ≤ 140737488355328) :
    Calls Try.prog 41 #[fptr db, .string n, v] w (fun e w' => e = .returned (.int .i64 (rwrite n data s).1) ∧ RAfter S w db (rwrite n data s).2 w') := by
  obtain ⟨r, h⟩ := h
  unfold fptr
  have HS := Lib.hid (rstep_ok S db n n s r w h hn hn)
  have hsd := Lib.hid h.sdb
  have hf1 := rfit_step hfit (okName n)
  unfold fptr at HS
  rw [Bool.and_self] at HS
  have HFO := Lib.hid (fun f hf => rfile_of h (okName n) (n := n) (f := f) hf)
  clear h
  rcases rthere_cases (okName n) n s with ⟨e0, he0, h1, h2⟩ | ⟨h1, h2, h3⟩ | ⟨h1, f, h2, h3⟩
  · have HE : rwrite n data s = (e0, (rstep (okName n) s).2) := by unfold rwrite; rw [h2]
    rw [HE]
    rw [h1] at HS
    have hb : (e0 != 0) = true := by simpa using he0
    clear HE h1 h2 he0
    go_enter Try.func41, Try.ntmps41
    go_wp2_with (go_at_call 51; refine HS.out.mono ?_; rintro e w1 ⟨rfl, hd1, ht1⟩)
    go_ret
    exact ⟨rfl, rafter_step hd1 hsd.out ht1⟩
  · have HE : rwrite n data s = (63, (rstep (okName n) s).2) := by unfold rwrite; rw [h3]
    rw [HE]
    rw [h1] at HS
    have HAT : Hid (∀ w1, RDiskRep S w1 db (rstep (okName n) s).2 r → Calls Try.prog 52 #[r.dv, .string n] w1 fun e w' => e = .returned (.int .i64 (-1)) ∧ w' = w1) := fun w1 hd => at_none S r.dv _ n w1 hd.dir h2
    clear HE h1 h2 h3
    generalize (rstep (okName n) s).2 = s1 at *
    go_enter Try.func41, Try.ntmps41
    go_wp2_with (first | (go_at_call 51; refine HS.out.mono ?_; rintro e w1 ⟨rfl, hd1, ht1⟩; obtain ⟨⟨c0, c1, c2, c3, c4, c5, c6, c7, c8⟩, cf, clt⟩ := cells9 hd1.blk; obtain ⟨Ad, cd, hdv, _, _⟩ := hd1.dir.sl; have hat := HAT.out w1 hd1; rw [hdv] at c2 hat; have HDV := Lib.hid hdv; have HD1 := Lib.hid hd1; clear hd1 hdv) | (go_at_call 52; refine hat.mono ?_; rintro e w2 ⟨rfl, rfl⟩))
    go_ret
    exact ⟨rfl, rafter_step HD1.out hsd.out ht1⟩
  · obtain ⟨m, rfl, hml⟩ := HFO.out f h2
    have hfl : (rstep (okName n) s).2.files.length = s.files.length := by rw [(rstep_rest (okName n) s).1]
    rw [← hfl] at hml
    have HE : rwrite n data s = (if w64 ((rstep (okName n) s).2.room - rused (rstep (okName n) s).2) < data.length then (60, (rstep (okName n) s).2) else (0, { (rstep (okName n) s).2 with files := (rstep (okName n) s).2.files.modify (m : Int).toNat (fun f => { f with now := f.now ++ data }) })) := by unfold rwrite; rw [h3]
    rw [HE]
    rw [h1] at HS
    have HAT : Hid (∀ w1, RDiskRep S w1 db (rstep (okName n) s).2 r → Calls Try.prog 52 #[r.dv, .string n] w1 (AtI (rstep (okName n) s).2.dir n m w1)) := fun w1 hd => at_some S r.dv _ n m w1 hd.dir h2
    clear HE h1 h2 h3 hfl HFO
    generalize (rstep (okName n) s).2 = s1 at *
    try dsimp only
    obtain ⟨Ad2, cd2, rfl, hdl⟩ := hsrc.len
    have HSR2 := Lib.hid hsrc
    have HOUT := Lib.hid hout
    clear hsrc hout
    obtain ⟨L, hL⟩ : ∃ L, s1.dir.length = L := ⟨_, rfl⟩
    have HL := Lib.hid hL
    have hNL : L ≤ N := by have := hf1.nd; omega
    have hus := rusedTo_all (s := s1) (k := L) (by omega)
    have hbu := rusedTo_bd (s := s1) hf1.nb L
    have hmu0 : L * M ≤ N * M := Nat.mul_le_mul_right _ hNL
    have hroom := hf1.room
    rw [hus] at hbu
    have hw64 : w64 (s1.room - rused s1) = s1.room - rused s1 := by unfold w64; omega
    rw [hw64]
    have HUS : Hid (∃ u, rused s1 = u) := ⟨_, rfl⟩
    obtain ⟨us, hu⟩ := HUS.out
    rw [hu] at hbu hus
    rw [hu]
    have HUE := Lib.hid hus
    obtain ⟨hr0, hr1⟩ := hroom
    have hu0 : 0 ≤ us := hbu.1
    have hu1 : us ≤ 9223372036854775807 := by omega
    clear hbu
    clear hus hw64 hu hL HUS hmu0
    by_cases hlt : s1.room - us < (data.length : Int)
    · rw [if_pos hlt]
      go_enter Try.func41, Try.ntmps41
      go_wp2_with (first | (go_at_call 51; refine HS.out.mono ?_; rintro e w1 ⟨rfl, hd1, ht1⟩; obtain ⟨⟨c0, c1, c2, c3, c4, c5, c6, c7, c8⟩, cf, clt⟩ := cells9 hd1.blk; obtain ⟨Ad, cd, hdv, _, _⟩ := hd1.dir.sl; have hat := HAT.out w1 hd1; rw [hdv] at c2 hat; have HDV := Lib.hid hdv; have HD1 := Lib.hid hd1; clear hd1 hdv) | (go_at_call 52; refine hat.mono ?_; rintro e w2 ⟨i, rfl, hi, rfl⟩; have HI := Lib.hid hi; obtain ⟨bd, hbd, _, q0, q1⟩ := EntsIn.cells (by have := HD1.out.dir; rw [HDV.out] at this; exact this) hi; have hil := (List.getElem?_eq_some_iff.1 hi).1; subst hbd; clear hi; clear hat; have hdi : decide ((i : Int) < 0) = false := (by simp)) )
      obtain ⟨x, hx⟩ : ∃ x, s1.files[m]? = some x := ⟨_, List.getElem?_eq_getElem hml⟩; obtain ⟨g, cap, q, hlv, hg0, hgd, hgl, hq, g0, g1, gf, b1, b2⟩ := HD1.out.fileAt hx; obtain ⟨v0, v1⟩ := q; dsimp only at g0 g1 b1 b2; obtain ⟨A0, e0, ev0⟩ := b1.sl; subst ev0; obtain ⟨A1, e1, ev1⟩ := b2.sl; subst ev1; rw [hlv] at c1; have HX := Lib.hid hx; have HLV := Lib.hid hlv; have HQ := Lib.hid hq; have HB1 := Lib.hid b1; have HB2 := Lib.hid b2; clear hx hlv hq b1 b2; have i1 : (0 : Int) ≤ (i : Int) := (by omega); have i2 : (i : Int) < (s1.dir.length : Int) := (by omega); have m1 : (0 : Int) ≤ (m : Int) := (by omega); have m2 : (m : Int) < (s1.files.length : Int) := (by omega); have hdi : decide ((i : Int) < 0) = false := (by simp)
      rw [HL.out] at c2 hil i2
      rw [HL.out]
      go_loopw [9, 10] (fun u k wr => ∃ j : Nat, j ≤ L ∧ k = .int .i64 j ∧ u = .int .i64 (rusedTo s1 j) ∧ ∃ nq, wr = w2.drewN nq) (fun _ k _ => L - (intOf k).toNat)
      case atStart => exact ⟨0, Nat.zero_le _, rfl, rfl, 0, rfl⟩
      case round =>
        obtain ⟨j, hj, rfl, rfl, nq, rfl⟩ := hrel
        by_cases hjl : j < L
        · obtain ⟨p, hp⟩ : ∃ p, s1.dir[j]? = some p := ⟨_, List.getElem?_eq_getElem (by have := HL.out; omega)⟩
          have hin := HD1.out.inD _ (List.mem_of_getElem? hp)
          obtain ⟨p1, p2⟩ := p
          dsimp only at hin
          obtain ⟨fj, rfl⟩ : ∃ fj : Nat, p2 = fj := ⟨p2.toNat, by omega⟩
          obtain ⟨bd', hbd', _, z0, z1⟩ := EntsIn.cells (by have := HD1.out.dir; rw [HDV.out] at this; exact this) hp
          cases hbd'
          obtain ⟨y, hy⟩ : ∃ y, s1.files[fj]? = some y := ⟨_, List.getElem?_eq_getElem (by omega)⟩
          obtain ⟨g', cap', q', hlv', _, _, _, hq', y0, y1, _, yb1, _⟩ := HD1.out.fileAt hy
          rw [HLV.out] at hlv'
          cases hlv'
          obtain ⟨v0', v1'⟩ := q'
          dsimp only at y0 yb1
          obtain ⟨A9, e9, ev9⟩ := yb1.sl
          subst ev9
          have hsu := rusedTo_succ hp
          have hny : nowAt s1.files ((p1, (fj : Int)).2).toNat = y.now := nowAt_some (by dsimp only; rw [Int.toNat_natCast]; exact hy)
          rw [hny] at hsu
          have hb0 := rusedTo_bd (s := s1) hf1.nb j
          have hb9 := rusedTo_bd (s := s1) hf1.nb (j + 1)
          have hmu : (j + 1) * M ≤ N * M := Nat.mul_le_mul_right _ (by omega)
          have hmu0 : j * M ≤ N * M := Nat.mul_le_mul_right _ (by omega)
          rw [hsu] at hb9
          have HSU := Lib.hid hsu
          obtain ⟨u, hu⟩ : ∃ u, rusedTo s1 j = u := ⟨_, rfl⟩
          rw [hu] at hb0 hb9
          have HU := Lib.hid hu
          have hwu : IntKind.i64.wrap (u + (y.now.length : Int)) = u + (y.now.length : Int) := IntWalk.i64_in _ (by omega)
          have j1 : (0 : Int) ≤ (j : Int) := by omega
          have j2 : (j : Int) < (L : Int) := by omega
          have f1 : (0 : Int) ≤ (fj : Int) := by omega
          have f2 : (fj : Int) < (s1.files.length : Int) := by omega
          clear hsu hny hp hy hu hin hmu hmu0 hb0 hb9 hq' y1 yb1
          rw [HU.out]
          go_wp2_with fail
          go_quiet (fail)
          go_wp2_with fail
          go_roundw
          case rel => exact ⟨j + 1, by omega, by go_num, by rw [HSU.out, HU.out], _, rfl⟩
          case measure => simp [intOf]; omega
        · obtain rfl : j = L := by omega
          rw [HUE.out]
          go_wp2_with fail
          go_ret
          exact ⟨rfl, (rafter_step HD1.out hsd.out ht1).drewN _⟩
    · rw [if_neg hlt]
      go_enter Try.func41, Try.ntmps41
      go_wp2_with (first | (go_at_call 51; refine HS.out.mono ?_; rintro e w1 ⟨rfl, hd1, ht1⟩; obtain ⟨⟨c0, c1, c2, c3, c4, c5, c6, c7, c8⟩, cf, clt⟩ := cells9 hd1.blk; obtain ⟨Ad, cd, hdv, _, _⟩ := hd1.dir.sl; have hat := HAT.out w1 hd1; rw [hdv] at c2 hat; have HDV := Lib.hid hdv; have HD1 := Lib.hid hd1; clear hd1 hdv) | (go_at_call 52; refine hat.mono ?_; rintro e w2 ⟨i, rfl, hi, rfl⟩; have HI := Lib.hid hi; obtain ⟨bd, hbd, _, q0, q1⟩ := EntsIn.cells (by have := HD1.out.dir; rw [HDV.out] at this; exact this) hi; have hil := (List.getElem?_eq_some_iff.1 hi).1; subst hbd; clear hi; clear hat; have hdi : decide ((i : Int) < 0) = false := (by simp)) )
      obtain ⟨x, hx⟩ : ∃ x, s1.files[m]? = some x := ⟨_, List.getElem?_eq_getElem hml⟩; obtain ⟨g, cap, q, hlv, hg0, hgd, hgl, hq, g0, g1, gf, b1, b2⟩ := HD1.out.fileAt hx; obtain ⟨v0, v1⟩ := q; dsimp only at g0 g1 b1 b2; obtain ⟨A0, e0, ev0⟩ := b1.sl; subst ev0; obtain ⟨A1, e1, ev1⟩ := b2.sl; subst ev1; rw [hlv] at c1; have HX := Lib.hid hx; have HLV := Lib.hid hlv; have HQ := Lib.hid hq; have HB1 := Lib.hid b1; have HB2 := Lib.hid b2; clear hx hlv hq b1 b2; have i1 : (0 : Int) ≤ (i : Int) := (by omega); have i2 : (i : Int) < (s1.dir.length : Int) := (by omega); have m1 : (0 : Int) ≤ (m : Int) := (by omega); have m2 : (m : Int) < (s1.files.length : Int) := (by omega); have hdi : decide ((i : Int) < 0) = false := (by simp)
      rw [HL.out] at c2 hil i2
      rw [HL.out]
      go_loopw [9, 10] (fun u k wr => ∃ j : Nat, j ≤ L ∧ k = .int .i64 j ∧ u = .int .i64 (rusedTo s1 j) ∧ ∃ nq, wr = w2.drewN nq) (fun _ k _ => L - (intOf k).toNat)
      case atStart => exact ⟨0, Nat.zero_le _, rfl, rfl, 0, rfl⟩
      case round =>
        obtain ⟨j, hj, rfl, rfl, nq, rfl⟩ := hrel
        by_cases hjl : j < L
        · obtain ⟨p, hp⟩ : ∃ p, s1.dir[j]? = some p := ⟨_, List.getElem?_eq_getElem (by have := HL.out; omega)⟩
          have hin := HD1.out.inD _ (List.mem_of_getElem? hp)
          obtain ⟨p1, p2⟩ := p
          dsimp only at hin
          obtain ⟨fj, rfl⟩ : ∃ fj : Nat, p2 = fj := ⟨p2.toNat, by omega⟩
          obtain ⟨bd', hbd', _, z0, z1⟩ := EntsIn.cells (by have := HD1.out.dir; rw [HDV.out] at this; exact this) hp
          cases hbd'
          obtain ⟨y, hy⟩ : ∃ y, s1.files[fj]? = some y := ⟨_, List.getElem?_eq_getElem (by omega)⟩
          obtain ⟨g', cap', q', hlv', _, _, _, hq', y0, y1, _, yb1, _⟩ := HD1.out.fileAt hy
          rw [HLV.out] at hlv'
          cases hlv'
          obtain ⟨v0', v1'⟩ := q'
          dsimp only at y0 yb1
          obtain ⟨A9, e9, ev9⟩ := yb1.sl
          subst ev9
          have hsu := rusedTo_succ hp
          have hny : nowAt s1.files ((p1, (fj : Int)).2).toNat = y.now := nowAt_some (by dsimp only; rw [Int.toNat_natCast]; exact hy)
          rw [hny] at hsu
          have hb0 := rusedTo_bd (s := s1) hf1.nb j
          have hb9 := rusedTo_bd (s := s1) hf1.nb (j + 1)
          have hmu : (j + 1) * M ≤ N * M := Nat.mul_le_mul_right _ (by omega)
          have hmu0 : j * M ≤ N * M := Nat.mul_le_mul_right _ (by omega)
          rw [hsu] at hb9
          have HSU := Lib.hid hsu
          obtain ⟨u, hu⟩ : ∃ u, rusedTo s1 j = u := ⟨_, rfl⟩
          rw [hu] at hb0 hb9
          have HU := Lib.hid hu
          have hwu : IntKind.i64.wrap (u + (y.now.length : Int)) = u + (y.now.length : Int) := IntWalk.i64_in _ (by omega)
          have j1 : (0 : Int) ≤ (j : Int) := by omega
          have j2 : (j : Int) < (L : Int) := by omega
          have f1 : (0 : Int) ≤ (fj : Int) := by omega
          have f2 : (fj : Int) < (s1.files.length : Int) := by omega
          clear hsu hny hp hy hu hin hmu hmu0 hb0 hb9 hq' y1 yb1
          rw [HU.out]
          go_wp2_with fail
          go_quiet (fail)
          go_wp2_with fail
          go_roundw
          case rel => exact ⟨j + 1, by omega, by go_num, by rw [HSU.out, HU.out], _, rfl⟩
          case measure => simp [intOf]; omega
        · obtain rfl : j = L := by omega
          rw [HUE.out]
          go_wp2_with fail
          have hb1 := HB1.out.src
          have HSRC := Lib.hid hb1
          have hnb := hf1.nb x (List.mem_of_getElem? HX.out)
          have hxl : x.now.length + data.length ≤ 140737488355328 := by omega
          have hs2 : Src w2 (.slice Ad2 data.length cd2) data := HSR2.out.touch HOUT.out (ht1.mono (fun k _ e => by subst e; exact hsd.out))
          have HS2 := Lib.hid hs2
          have n1 := World.new_ne w2 _ c1
          have n3 := World.new_ne w2 _ g0
          dsimp only at n1 n3
          have al1 : ∀ k, ((w2.drewN k).alloc (.cells #[] 5)).cell? ⟨db, 1, none⟩ = some (.slice (some ⟨g, 0, none⟩) s1.files.length cap) := fun k => (((below_drewN w2 k).alloc (Nat.le_refl _) _).cell (World.block_lt_of_cell? _ _ c1)).trans c1
          have al2 : ∀ k, ((w2.drewN k).alloc (.cells #[] 5)).cell? ⟨g, m * 2, none⟩ = some (.slice A0 x.now.length e0) := fun k => (((below_drewN w2 k).alloc (Nat.le_refl _) _).cell (World.block_lt_of_cell? _ _ g0)).trans g0
          have tok1 : True := trivial
          clear hb1 hnb hs2
          go_region_law (first
              | ((have _t := tok1; refine step_append_src (by rfl) (.tmp 76) (.tmp 84) (by rfl) w2.heap.size (.slice (some ⟨w2.heap.size, 0, none⟩) 0 0) (.slice A0 x.now.length e0) 0 [] x.now (by rfl) (by rfl) (own_made (w2.drewN _) (0, 0) rfl) (HSRC.out.below ((below_drewN w2 _).alloc (Nat.le_refl _) _)) (by omega) (by simp) ?_; intro A3 c3 w3 hown3 hg3 hat3; clear tok1 _t; simp only [Nat.zero_add, List.nil_append] at hown3; have hb3 : Below w2.heap.size w2 w3 := ((below_drewN w2 _).alloc (Nat.le_refl _) _).grown hg3 (by simp) (fun k e => Nat.le_of_eq (by simpa [Value.ownBlock] using e)); have HO3 := Lib.hid hown3; have z1 := (hb3.cell (World.block_lt_of_cell? _ _ c1)).trans c1; have z2 := (hb3.cell (World.block_lt_of_cell? _ _ g0)).trans g0; clear hown3))
              | ((refine step_append_src (by rfl) (.tmp 85) (.tmp 86) (by rfl) w2.heap.size _ (.slice Ad2 data.length cd2) x.now.length x.now data (by rfl) (by rfl) HO3.out (HS2.out.below hb3) (by omega) hb3.size ?_; intro A4 c4 w4 hown4 hg4 hat4; have hb4 : Below w2.heap.size w2 w4 := hb3.grown hg4 hb3.size (fun k e => own_base HO3.out e); have HO4 := Lib.hid hown4; have y1 := (hb4.cell (World.block_lt_of_cell? _ _ c1)).trans c1; have y2 := (hb4.cell (World.block_lt_of_cell? _ _ g0)).trans g0; have y3 := (hb4.frozen (p := ⟨g, m * 2, none⟩) hgl).trans (gf _); clear hown4)))
          all_goals
            go_wp2
            go_ret
            refine ⟨rfl, RDisk.keep (S := Grow S w) (w := w4.setCell ⟨g, m * 2, none⟩ (.slice A4 (x.now.length + data.length) c4)) ?_ (fun _ hs => hs) (fun _ _ _ => rfl), ?_⟩
            · rw [Int.toNat_natCast, modify_set _ _ _ _ HX.out]
              have hv : BytesIn (fun k => w2.heap.size ≤ k) w4 (.slice A4 (x.now.length + data.length) c4) (x.now ++ data) := own_bytes HO4.out (by simp; omega)
              have hd4 := (HD1.out.below hb4).keep (S' := Grow S w) (fun _ hs => .inl hs) (fun _ _ _ => rfl)
              exact file_now hd4 HX.out HLV.out HQ.out (HB2.out.keep (fun _ hs => .inl hs) (fun k o ho _ _ => below_heap hb4 ho)) (hv.keep (fun k hk => .inr (Nat.le_trans ht1.size hk)) (fun _ _ ho _ _ => ho))
            · have h1 : Touch S w (w4.setCell ⟨g, m * 2, none⟩ (.slice A4 (x.now.length + data.length) c4)) := ((rafter_step HD1.out hsd.out ht1).2.trans (Touch.of_below hb4)).set1 g (m * 2) (.inl hg0) _
              exact h1
end Go.Proofs.Ythdncdhgnoggkaa
