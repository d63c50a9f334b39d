/-
  What the program computes, in plain Lean: paths, contents, trees, commands, frames. Nothing of the program stands here.
-/
namespace Go.Proofs.YtnemajefpgicgaaDoor

abbrev Str := List UInt8

structure Cont where
  kind : Int
  value : Int
  deriving DecidableEq, Inhabited
structure Nd where
  path : Str
  c : Cont
  deriving DecidableEq, Inhabited
structure Cm where
  path : Str
  fr : Cont
  to : Cont
  deriving DecidableEq, Inhabited

/-! ### Paths -/
def isLet (b : UInt8) : Bool := 97 ≤ b.toNat && b.toNat ≤ 100
def segs : Str → Bool
  | [] => true
  | [_] => false
  | a :: b :: r => a == 47 && isLet b && segs r
def root : Str := [47]
/-- a path: the root, or one to four names -/
def pathOk (s : Str) : Bool := s == root || (segs s && 2 ≤ s.length && s.length ≤ 8)
def parent (s : Str) : Str := if s.length ≤ 2 then root else s.take (s.length - 2)
def under (a b : Str) : Bool := if a == root then b != root else (a ++ [47]).isPrefixOf b

/-! ### Contents -/
def contOk (c : Cont) : Bool := ((c.kind == 0 || c.kind == 1) && c.value == 0) || (c.kind == 2 && 0 ≤ c.value && c.value ≤ 99)
def none0 : Cont := ⟨0, 0⟩
def dir0 : Cont := ⟨1, 0⟩

/-! ### Trees -/
def find (t : List Nd) (p : Str) : Option Cont := (t.find? (fun n => n.path == p)).map (·.c)
def get (t : List Nd) (p : Str) : Cont := if p == root then dir0 else (find t p).getD none0

/-! ### Bytes, bodies, frames -/
def byteOk (n : Int) : Bool := 0 ≤ n && n ≤ 255
def bytesOk (l : List Int) : Bool := l.all byteOk
def bodyOk (l : List Int) : Bool := bytesOk l && 1 ≤ l.length && l.length ≤ 16
def bsumFrom (s : Int) (l : List Int) : Int := l.foldl (fun s b => (31 * s + b) % 251) s
def bsum (l : List Int) : Int := bsumFrom 7 l
def frameOf (l : List Int) : List Int := if bodyOk l then (l.length : Int) :: (l ++ [bsum l]) else []

end Go.Proofs.YtnemajefpgicgaaDoor
