/- A disk with files, in plain words. -/
import Derived.Test.YtnbmjbelmcibgaaChecked
import Derived.Maps.Views
import Derived.ProofKit
set_option linter.unusedSimpArgs false
set_option linter.unusedVariables false
namespace Go.Proofs.Ytnbmjbelmcibgaa
open Go.RowKit
namespace Dsk
/-- A file: its name, its bytes; so many of these are sure. -/
structure FileIn where
  nm : List UInt8
  by' : List UInt8
  sure : Nat
deriving DecidableEq
/-- A disk: its files rise by their names. -/
structure DkIn where
  files : List FileIn
  room : Int
  ops : Int
  last : Int
  half : Bool
  dead : Bool
/-- A file among those that rise. -/
def ins (f : FileIn) : List FileIn → List FileIn
  | [] => [f]
  | x :: l => if bytesBefore f.nm x.nm then f :: x :: l else x :: ins f l
def del (s : List UInt8) (l : List FileIn) : List FileIn := l.filter fun x => !decide (x.nm = s)
def putF (f : FileIn) (l : List FileIn) : List FileIn := ins f (del f.nm l)
def find (s : List UInt8) (l : List FileIn) : Option FileIn := l.find? fun x => decide (x.nm = s)
/-- Is a text a name? -/
def letter (b : UInt8) : Bool := decide (b = 46) || (decide (97 ≤ b.toNat) && decide (b.toNat ≤ 122))
def isName (s : List UInt8) : Bool := s.all letter && decide (1 ≤ s.length) && decide (s.length ≤ 12)
def bytesOf (l : List FileIn) : Nat := (l.map fun f => f.by'.length).sum
/-- A disk that stands still has nothing. -/
def usedV (d : DkIn) : Int := if d.dead then 0 else bytesOf d.files
/-- An operation is counted: whether it is done, what is answered. -/
def opV (d : DkIn) : Bool × Int × DkIn :=
  let d1 := { d with ops := d.ops + 1 }
  if d.last = 0 then (true, 0, d1)
  else if 0 < d.last - 1 then (true, 0, { d1 with last := d.last - 1 })
  else (d.half, 14, { d1 with last := d.last - 1, dead := true })
def appendV (d : DkIn) (s b : List UInt8) : Int × DkIn :=
  if d.dead then (14, d)
  else if isName s = false then (1, d)
  else if d.room - usedV d < b.length then (4, d)
  else
    let f := (find s d.files).getD ⟨s, [], 0⟩
    let r := opV { d with files := putF ⟨s, f.by' ++ b, f.sure⟩ d.files }
    (r.2.1, r.2.2)
def syncV (d : DkIn) (s : List UInt8) : Int × DkIn :=
  if d.dead then (14, d)
  else match find s d.files with
    | none => (3, d)
    | some f =>
      let r := opV d
      (r.2.1, if r.1 then { r.2.2 with files := putF ⟨s, f.by', f.by'.length⟩ r.2.2.files } else r.2.2)
def cutV (d : DkIn) (s : List UInt8) (n : Int) : Int × DkIn :=
  if d.dead then (14, d)
  else match find s d.files with
    | none => (3, d)
    | some f =>
      if n < 0 ∨ (f.by'.length : Int) < n then (1, d)
      else
        let r := opV d
        (r.2.1, if r.1 then { r.2.2 with files := putF ⟨s, f.by'.take n.toNat, min f.sure n.toNat⟩ r.2.2.files } else r.2.2)
def renameV (d : DkIn) (s t : List UInt8) : Int × DkIn :=
  if d.dead then (14, d)
  else if isName t = false then (1, d)
  else match find s d.files with
    | none => (3, d)
    | some f =>
      let r := opV d
      (r.2.1, if r.1 then { r.2.2 with files := putF { f with nm := t } (del s r.2.2.files) } else r.2.2)
def readV (d : DkIn) (s : List UInt8) : List UInt8 × Int :=
  if d.dead then ([], 14)
  else match find s d.files with
    | none => ([], 3)
    | some f => (f.by', 0)
def namesV (d : DkIn) : List (List UInt8) := if d.dead then [] else d.files.map fun f => f.nm
def fuseV (d : DkIn) (n : Int) (half : Bool) : DkIn := { d with last := if 0 < n then n else 0, half := half }
/-- What a number tells to keep. -/
def keepOf (k : Int) (room : Nat) : Nat := (k % 4611686018427387904).toNat % (room + 1)
/-- How many bytes of a file are left by a crash. -/
def leftOf (keep : List Int) (i : Nat) (f : FileIn) : Nat := f.sure + (match keep[i]? with | some k => keepOf k (f.by'.length - f.sure) | none => 0)
def crashF (keep : List Int) : Nat → List FileIn → List FileIn
  | _, [] => []
  | i, f :: l => let n := leftOf keep i f; if n = 0 then crashF keep (i + 1) l else ⟨f.nm, f.by'.take n, n⟩ :: crashF keep (i + 1) l
def crashV (d : DkIn) (keep : List Int) : DkIn := { d with files := crashF keep 0 d.files, dead := false, last := 0 }
/-- The files rise, each may be. -/
structure Fok (l : List FileIn) : Prop where
  rise : l.Pairwise fun a b => bytesBefore a.nm b.nm = true
  name : ∀ f ∈ l, isName f.nm = true
  sure : ∀ f ∈ l, f.sure ≤ f.by'.length
end Dsk
end Go.Proofs.Ytnbmjbelmcibgaa
