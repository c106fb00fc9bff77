/-
  The plain model of the reference's disk and store (quireref21, quireref22): what each call answers and what the disk is behind it. No program and no memory here; no condition.
-/
import Derived.Test.YthdncdhgnoggkaaModel
import GoSem.Op.String
namespace Go.Proofs.Ythdncdhgnoggkaa

abbrev RDir := List (ByteArray × Int)
structure RDk where
  room : Int
  files : List Fil
  dir : RDir
  sdir : RDir
  wait : List RDir
  plan : List (Int × Int)
  src : Int
  n : Int
  down : Bool

def gtB (a b : ByteArray) : Bool := !(Op.bytesLess a.toList b.toList || a.toList == b.toList)
def rfind : RDir → ByteArray → Option Int
  | [], _ => none
  | p :: l, n => if p.1 = n then some p.2 else rfind l n
def rsetGo (n : ByteArray) (f : Int) : RDir → Bool → RDir × Bool
  | [], d => ([], d)
  | p :: l, d =>
    let a := !d && gtB p.1 n
    let r := rsetGo n f l (d || a)
    ((if a then [(n, f)] else []) ++ (if p.1 = n then [] else [p]) ++ r.1, r.2)
def rset (l : RDir) (n : ByteArray) (f : Int) : RDir :=
  let r := rsetGo n f l (decide (f < 0))
  if r.2 then r.1 else r.1 ++ [(n, f)]
def rputs (d : RDir) (l : RDir) : RDir := l.foldl (fun d p => rset d p.1 p.2) d

/-- What a fault of the plan answers. -/
def rtell : Option Int → Int
  | none => 0
  | some k => if k = 1 then 61 else if k = 2 then 60 else 62
def rstep (ok : Bool) (s : RDk) : Int × RDk :=
  if s.down then (62, s) else if !ok then (42, s) else
  let e := rtell (findI s.plan (w64 (w64 (s.n + 1) - s.src)))
  (e, { s with n := w64 (s.n + 1), down := decide (e = 62) })
def rthere (ok : Bool) (n : ByteArray) (s : RDk) : Int × Option Int × RDk :=
  let r := rstep ok s
  if r.1 = 0 then
    match rfind r.2.dir n with
    | none => (63, none, r.2)
    | some i => (0, some i, r.2)
  else (r.1, none, r.2)
def rchange (l : RDir) (s : RDk) : RDk := { s with dir := rputs s.dir l, wait := s.wait ++ [l] }
def rcreate (n : ByteArray) (s : RDk) : Int × RDk :=
  let r := rstep (okName n) s
  if r.1 = 0 then
    if rfind r.2.dir n = none ∧ 8 ≤ r.2.dir.length then (3, r.2)
    else (0, rchange [(n, (r.2.files.length : Int))] { r.2 with files := r.2.files ++ [⟨[], []⟩] })
  else r
def rused (s : RDk) : Int := (s.dir.map (fun p => ((nowAt s.files p.2.toNat).length : Int))).sum
def rwrite (n : ByteArray) (data : List Int) (s : RDk) : Int × RDk :=
  match rthere (okName n) n s with
  | (_, some i, s1) =>
    if w64 (s1.room - rused s1) < data.length then (60, s1)
    else (0, { s1 with files := s1.files.modify i.toNat (fun f => { f with now := f.now ++ data }) })
  | (e, none, s1) => (e, s1)
def rfsync (n : ByteArray) (s : RDk) : Int × RDk :=
  match rthere (okName n) n s with
  | (_, some i, s1) => (0, { s1 with files := s1.files.modify i.toNat (fun f => { f with safe := f.now }) })
  | (e, none, s1) => (e, s1)
def rrename (n o : ByteArray) (s : RDk) : Int × RDk :=
  match rthere (okName n && okName o) n s with
  | (_, some i, s1) => (0, rchange [(n, -1), (o, i)] s1)
  | (e, none, s1) => (e, s1)
def rremove (n : ByteArray) (s : RDk) : Int × RDk :=
  match rthere (okName n) n s with
  | (_, some _, s1) => (0, rchange [(n, -1)] s1)
  | (e, none, s1) => (e, s1)
def rdirsync (s : RDk) : Int × RDk :=
  let r := rstep true s
  if r.1 = 0 then (0, { r.2 with sdir := r.2.dir, wait := [] }) else r
def rread (n : ByteArray) (s : RDk) : Int × Option (List Int) × RDk :=
  match rthere (okName n) n s with
  | (_, some i, s1) => (0, some (nowAt s1.files i.toNat), s1)
  | (e, none, s1) => (e, none, s1)
def rboot (entries : Int) (kept : List Int) (s : RDk) : RDk :=
  let d := (s.wait.take entries.toNat).foldl rputs s.sdir
  { s with files := s.files.mapIdx (bootFile kept), dir := d, sdir := d, wait := [], plan := [], down := false }
def rnames (s : RDk) : List (List UInt8) := if s.down then [] else s.dir.map (·.1.data.toList)
def rfresh (room : Int) : RDk := ⟨room, [], [], [], [], [], 0, 0, false⟩
def rightPlan (xs : List (Int × Int)) : Bool := decide (xs.length ≤ 64) && xs.all (fun p => decide (1 ≤ p.1 ∧ 1 ≤ p.2 ∧ p.2 ≤ 3)) && decide ((xs.map (·.1)).Nodup)
def rarm (xs : List (Int × Int)) (s : RDk) : Int × RDk := if rightPlan xs then (0, { s with plan := xs, src := s.n }) else (1, s)

def rsave (p : ByteArray) (data : List Int) (s : RDk) : Int × RDk :=
  if !right p then (1, s) else if (1048576 : Int) < data.length then (3, s) else
  let r1 := rcreate (tmp p) s
  if r1.1 ≠ 0 then (r1.1, (rremove (tmp p) r1.2).2) else
  let r2 := rwrite (tmp p) data r1.2
  if r2.1 ≠ 0 then (r2.1, (rremove (tmp p) r2.2).2) else
  let r3 := rfsync (tmp p) r2.2
  if r3.1 ≠ 0 then (r3.1, (rremove (tmp p) r3.2).2) else
  let r4 := rrename (tmp p) p r3.2
  if r4.1 ≠ 0 then (r4.1, (rremove (tmp p) r4.2).2) else
  rdirsync r4.2
def rload (p : ByteArray) (s : RDk) : Int × Option (List Int) × RDk :=
  if !right p then (1, none, s) else rread p s
def rlisted (s : RDk) (n : ByteArray) : Bool := !s.down && s.dir.any (fun p => p.1 == n)
def rrecover (p : ByteArray) (s : RDk) : Int × RDk :=
  if !right p then (1, s) else if !rlisted s (tmp p) then (0, s) else
  let r := rremove (tmp p) s
  if r.1 ≠ 0 then r else rdirsync r.2
end Go.Proofs.Ythdncdhgnoggkaa
