/-
  The plain model of names, directories, the disk (layer 21) and the store (layer 22): what each call answers and what the disk is behind it. No program and no memory here; no condition.
-/
namespace Go.Proofs.Ythdncdhgnoggkaa

/-! ### Names -/
def okByte (c : UInt8) : Bool := 0x21 ≤ c && c ≤ 0x7e && c != 0x2f
def allOk (s : ByteArray) : Bool := s.data.toList.all okByte
def okName (s : ByteArray) : Bool := s.size != 0 && decide (s.size ≤ 64) && allOk s
def endsTmp (s : ByteArray) : Bool := decide (4 ≤ s.size) && ((s.extract (s.size - 4) s.size).toList == [46, 116, 109, 112])
def tmp (s : ByteArray) : ByteArray := s ++ ⟨#[46, 116, 109, 112]⟩
def right (s : ByteArray) : Bool := okName s && decide (s.size ≤ 60) && !endsTmp s
def noName : ByteArray := ⟨#[]⟩

/-! ### Directories, plans -/
abbrev Dir := List (ByteArray × Nat)
def find : Dir → ByteArray → Option Nat
  | [], _ => none
  | p :: l, n => if p.1 = n then some p.2 else find l n
def erase (n : ByteArray) : Dir → Dir
  | [] => []
  | p :: l => if p.1 = n then l else p :: erase n l
def put : Dir → ByteArray → Nat → Dir
  | [], n, i => [(n, i)]
  | p :: l, n, i => if p.1 = n then (n, i) :: l else p :: put l n i
abbrev IMap := List (Int × Int)
def findI : IMap → Int → Option Int
  | [], _ => none
  | p :: l, n => if p.1 = n then some p.2 else findI l n
def eraseI (n : Int) : IMap → IMap
  | [] => []
  | p :: l => if p.1 = n then l else p :: eraseI n l
def putI : IMap → Int → Int → IMap
  | [], n, i => [(n, i)]
  | p :: l, n, i => if p.1 = n then (n, i) :: l else p :: putI l n i

/-! ### The disk -/
structure Fil where
  now : List Int
  safe : List Int
structure Ent where
  gone : ByteArray
  name : ByteArray
  f : Option Nat
structure Dk where
  room : Int
  files : List Fil
  dir : Dir
  sdir : Dir
  pend : List Ent
  plan : IMap
  steps : Int
  down : Bool

def toDir (l : Dir) (e : Ent) : Dir :=
  match e.f with
  | none => erase e.gone l
  | some i => put (erase e.gone l) e.name i

def w64 (x : Int) : Int := (x + 9223372036854775808) % 18446744073709551616 - 9223372036854775808
def kindAt (p : IMap) (n : Int) : Int := (findI p n).getD 0

def step (ok : Bool) (s : Dk) : Int × Dk :=
  if s.down then (62, s) else if !ok then (42, s) else
  let s1 := { s with steps := w64 (s.steps + 1) }
  let k := kindAt s.plan (w64 (s.steps + 1))
  if k = 1 then (61, s1) else if k = 2 then (60, s1) else if k = 3 then (62, { s1 with down := true }) else (0, s1)

def there (ok : Bool) (n : ByteArray) (s : Dk) : Int × Option Nat × Dk :=
  let r := step ok s
  if r.1 = 0 then
    match find r.2.dir n with
    | none => (63, none, r.2)
    | some i => (0, some i, r.2)
  else (r.1, none, r.2)

def change (e : Ent) (s : Dk) : Dk := { s with dir := toDir s.dir e, pend := s.pend ++ [e] }

def create (n : ByteArray) (s : Dk) : Int × Dk :=
  let r := step (okName n) s
  if r.1 = 0 then
    if find r.2.dir n = none ∧ 8 ≤ r.2.dir.length then (3, r.2)
    else (0, change ⟨noName, n, some r.2.files.length⟩ { r.2 with files := r.2.files ++ [⟨[], []⟩] })
  else r

def nowAt (fs : List Fil) (i : Nat) : List Int := (fs[i]?.map (·.now)).getD []
def used (s : Dk) : Int := (s.dir.map (fun p => ((nowAt s.files p.2).length : Int))).sum
def left (s : Dk) : Int := w64 (s.room - used s)

def write (n : ByteArray) (data : List Int) (s : Dk) : Int × Dk :=
  match there (okName n) n s with
  | (_, some i, s1) =>
    if left s1 < data.length then (60, s1)
    else (0, { s1 with files := s1.files.modify i (fun f => { f with now := f.now ++ data }) })
  | (e, none, s1) => (e, s1)

def fsync (n : ByteArray) (s : Dk) : Int × Dk :=
  match there (okName n) n s with
  | (_, some i, s1) => (0, { s1 with files := s1.files.modify i (fun f => { f with safe := f.now }) })
  | (e, none, s1) => (e, s1)

def rename (n o : ByteArray) (s : Dk) : Int × Dk :=
  match there (okName n && okName o) n s with
  | (_, some i, s1) => (0, change ⟨n, o, some i⟩ s1)
  | (e, none, s1) => (e, s1)

def remove (n : ByteArray) (s : Dk) : Int × Dk :=
  match there (okName n) n s with
  | (_, some _, s1) => (0, change ⟨n, noName, none⟩ s1)
  | (e, none, s1) => (e, s1)

def dirsync (s : Dk) : Int × Dk :=
  let r := step true s
  if r.1 = 0 then (0, { r.2 with sdir := r.2.dir, pend := [] }) else r

def read (n : ByteArray) (s : Dk) : Int × Option (List Int) × Dk :=
  match there (okName n) n s with
  | (_, some i, s1) => (0, some (nowAt s1.files i), s1)
  | (e, none, s1) => (e, none, s1)

def bootFile (kept : List Int) (i : Nat) (f : Fil) : Fil :=
  let sf := match kept[i]? with
    | some k => if (f.safe.length : Int) < k then f.now.take (min k f.now.length).toNat else f.safe
    | none => f.safe
  ⟨sf, sf⟩
def boot (entries : Int) (kept : List Int) (s : Dk) : Dk :=
  let d := (s.pend.take (min (max entries 0) s.pend.length).toNat).foldl toDir s.sdir
  { s with files := s.files.mapIdx (bootFile kept), dir := d, sdir := d, pend := [], plan := [], down := false }

def fresh (room : Int) : Dk := ⟨room, [], [], [], [], [], 0, false⟩

/-! ### The store -/
def save (p : ByteArray) (data : List Int) (s : Dk) : Int × Dk :=
  if !right p then (1, s) else if (1048576 : Int) < data.length then (3, s) else
  let r1 := create (tmp p) s
  if r1.1 ≠ 0 then (r1.1, (remove (tmp p) r1.2).2) else
  let r2 := write (tmp p) data r1.2
  if r2.1 ≠ 0 then (r2.1, (remove (tmp p) r2.2).2) else
  let r3 := fsync (tmp p) r2.2
  if r3.1 ≠ 0 then (r3.1, (remove (tmp p) r3.2).2) else
  let r4 := rename (tmp p) p r3.2
  if r4.1 ≠ 0 then (r4.1, (remove (tmp p) r4.2).2) else
  dirsync r4.2

def load (p : ByteArray) (s : Dk) : Int × Option (List Int) × Dk :=
  if !right p then (1, none, s) else read p s

def listed (s : Dk) (n : ByteArray) : Bool := !s.down && s.dir.any (fun p => p.1 == n)
def recover (p : ByteArray) (s : Dk) : Int × Dk :=
  if !right p then (1, s) else if !listed s (tmp p) then (0, s) else
  let r := remove (tmp p) s
  if r.1 ≠ 0 then r else dirsync r.2

end Go.Proofs.Ythdncdhgnoggkaa
