/-
  No cell of these rows narrows 'for every input' (looked for: loops, veiled, ifaces, maps, wideKeys, modest, calm, conditions, laid).
  DERIVED. THE GIVEN ROWS OF THIS SEAT. 3 by the template 'for every input the law returns true; each argument reads behind the call as it read before'; 0 by the template 'total and deterministic' (their statements: YtljkgemkolmihaaTotals.lean).
  GIVEN WITH THE SEED: the statements are not yours to turn. If you find one false, say at which input.
  Laid BY PROGRAM, IN A SANDBOX (cutbox-rows.mjs): the forced cells as the released guide's own fill.sh prints them over the translation 3b982c101ecc3dd3… (all of the seat's roots in one cut). By AI agents, Wed Nov 11 2026. No macro, syntax, notation, axiom, sorry.
-/
import Derived.Test.YtljkgemkolmihaaChecked
import GoSem.Claim
import GoSem.ClaimJoined
import GoSem.ClaimMapViews
import Derived.JoinedTies
import Derived.KernelRfl
namespace Go.Proofs.Ytljkgemkolmihaa
/- THE CELL 'sum', in the pinned program and in every row, IS THE sha256 OF THE DUMP (.gsa) THAT YtljkgemkolmihaaProg.lean LOADS. Nothing in Lean hashes anything: it is a label: what it is worth is what the hold of that sum in a sandbox is worth. -/
noncomputable def Try.pinned : Pinned := { name := "ytljkgemkolmihaa", sum := "3b982c101ecc3dd3592be6c8ea090550bbbc03e593d7ced753f61abeff951549", checked := Try.checked }
namespace Rows
def none {H : Type} : Left H := { results := [], args := [] }

/-- 'laws.FnExactAddPicture': WHATEVER THE INPUT: true; the input reads as it did. -/
def fnExactAddPictureSpec : ChangeSpec := { name := "fnExactAddPicture", fn := fun _ => fun
  | [d1, d2] => { results := [.lit (.bool true)], args := [d1, d2] }
  | _ => none }
def fnExactAddPictureRow : OpenClaim := { program := "ytljkgemkolmihaa", sum := "3b982c101ecc3dd3592be6c8ea090550bbbc03e593d7ced753f61abeff951549", func := "loop.example/g01223/laws.FnExactAddPicture", spec := "fnExactAddPicture", unfollowed := true, recurses := true, apart := false }
def FnExactAddPictureSaid : Prop := fnExactAddPictureRow.holds Try.pinned (OpenSpec.ofChange fnExactAddPictureSpec)

/-- ITS FALSE NEIGHBOUR: 'it returns false'. Refute it at one input. -/
def fnExactAddPictureWrong : ChangeSpec := { name := "fnExactAddPicture", fn := fun _ => fun
  | [d1, d2] => { results := [.lit (.bool false)], args := [d1, d2] }
  | _ => none }
def FnExactAddPictureWrongFalsely : Prop := fnExactAddPictureRow.holds Try.pinned (OpenSpec.ofChange fnExactAddPictureWrong)

/-- 'laws.FnExactStoreAlbum': WHATEVER THE INPUT: true; the input reads as it did. -/
def fnExactStoreAlbumSpec : ChangeSpec := { name := "fnExactStoreAlbum", fn := fun _ => fun
  | [d] => { results := [.lit (.bool true)], args := [d] }
  | _ => none }
def fnExactStoreAlbumRow : OpenClaim := { program := "ytljkgemkolmihaa", sum := "3b982c101ecc3dd3592be6c8ea090550bbbc03e593d7ced753f61abeff951549", func := "loop.example/g01223/laws.FnExactStoreAlbum", spec := "fnExactStoreAlbum", inPlace := ["math.Float32bits", "internal/abi.NoEscape"], unfollowed := true, recurses := true, apart := false }
def FnExactStoreAlbumSaid : Prop := fnExactStoreAlbumRow.holds Try.pinned (OpenSpec.ofChange fnExactStoreAlbumSpec)

/-- ITS FALSE NEIGHBOUR: 'it returns false'. Refute it at one input. -/
def fnExactStoreAlbumWrong : ChangeSpec := { name := "fnExactStoreAlbum", fn := fun _ => fun
  | [d] => { results := [.lit (.bool false)], args := [d] }
  | _ => none }
def FnExactStoreAlbumWrongFalsely : Prop := fnExactStoreAlbumRow.holds Try.pinned (OpenSpec.ofChange fnExactStoreAlbumWrong)

/-- 'laws.FnExactDeskVolume': WHATEVER THE INPUT: true; the input reads as it did. -/
def fnExactDeskVolumeSpec : ChangeSpec := { name := "fnExactDeskVolume", fn := fun _ => fun
  | [d1, d2] => { results := [.lit (.bool true)], args := [d1, d2] }
  | _ => none }
def fnExactDeskVolumeRow : OpenClaim := { program := "ytljkgemkolmihaa", sum := "3b982c101ecc3dd3592be6c8ea090550bbbc03e593d7ced753f61abeff951549", func := "loop.example/g01223/laws.FnExactDeskVolume", spec := "fnExactDeskVolume", unfollowed := true, recurses := true, apart := false }
def FnExactDeskVolumeSaid : Prop := fnExactDeskVolumeRow.holds Try.pinned (OpenSpec.ofChange fnExactDeskVolumeSpec)

/-- ITS FALSE NEIGHBOUR: 'it returns false'. Refute it at one input. -/
def fnExactDeskVolumeWrong : ChangeSpec := { name := "fnExactDeskVolume", fn := fun _ => fun
  | [d1, d2] => { results := [.lit (.bool false)], args := [d1, d2] }
  | _ => none }
def FnExactDeskVolumeWrongFalsely : Prop := fnExactDeskVolumeRow.holds Try.pinned (OpenSpec.ofChange fnExactDeskVolumeWrong)

/- THE SECOND FORM. 'bulk': how many values and letters a reading holds, each counted each time it is reached (what is shared counts as often as it is met; a slice's spare places count too). A statement '..UptoSaid' is the law's where the arguments, and the package variables that the reading takes, are together of bulk at most 1048576: NARROWER than '..Said'. Prove '..Said' where nothing that the law and all that it calls make is longer than what came in: it says more and counts as full. Else prove '..UptoSaid'. A law counts once. -/
mutual
def uptoBulk {H : Type} : DataW H → Nat
  | .lit (.string bytes) => bytes.length + 1
  | .lit _ => 1
  | .nil => 1
  | .ptr d => uptoBulk d + 1
  | .slice elems spare => uptoBulkAll elems + uptoBulkAll spare + 1
  | .agg parts => uptoBulkAll parts + 1
  | .iface _ d => uptoBulk d + 1
  | .map entries => uptoBulkEntries entries + 1
  | .held _ => 1
def uptoBulkAll {H : Type} : List (DataW H) → Nat
  | [] => 0
  | d :: r => uptoBulk d + uptoBulkAll r
def uptoBulkEntries {H : Type} : List (Lit × DataW H) → Nat
  | [] => 0
  | x :: r => uptoBulkEntry x + uptoBulkEntries r
def uptoBulkEntry {H : Type} : Lit × DataW H → Nat
  | (.string bytes, d) => bytes.length + uptoBulk d + 1
  | (_, d) => uptoBulk d + 1
 end
def uptoSmall : (H : Type) → List (DataW H) → Bool := fun _ ds => decide (uptoBulkAll ds ≤ 1048576)
def OpenSpec.upto (s : _root_.Go.ChangeSpec) : _root_.Go.OpenSpec := { _root_.Go.OpenSpec.ofChange s with cond := some uptoSmall }

/-- 'laws.FnExactAddPicture', WHERE WHAT IT READS IS OF BULK AT MOST 1048576: true; the input reads as it did. -/
def fnExactAddPictureUptoRow : OpenClaim := { program := "ytljkgemkolmihaa", sum := "3b982c101ecc3dd3592be6c8ea090550bbbc03e593d7ced753f61abeff951549", func := "loop.example/g01223/laws.FnExactAddPicture", spec := "fnExactAddPicture", unfollowed := true, recurses := true, apart := false, narrowed := true }
def FnExactAddPictureUptoSaid : Prop := fnExactAddPictureUptoRow.holds Try.pinned (OpenSpec.upto fnExactAddPictureSpec)

/-- 'laws.FnExactStoreAlbum', WHERE WHAT IT READS IS OF BULK AT MOST 1048576: true; the input reads as it did. -/
def fnExactStoreAlbumUptoRow : OpenClaim := { program := "ytljkgemkolmihaa", sum := "3b982c101ecc3dd3592be6c8ea090550bbbc03e593d7ced753f61abeff951549", func := "loop.example/g01223/laws.FnExactStoreAlbum", spec := "fnExactStoreAlbum", inPlace := ["math.Float32bits", "internal/abi.NoEscape"], unfollowed := true, recurses := true, apart := false, narrowed := true }
def FnExactStoreAlbumUptoSaid : Prop := fnExactStoreAlbumUptoRow.holds Try.pinned (OpenSpec.upto fnExactStoreAlbumSpec)

/-- 'laws.FnExactDeskVolume', WHERE WHAT IT READS IS OF BULK AT MOST 1048576: true; the input reads as it did. -/
def fnExactDeskVolumeUptoRow : OpenClaim := { program := "ytljkgemkolmihaa", sum := "3b982c101ecc3dd3592be6c8ea090550bbbc03e593d7ced753f61abeff951549", func := "loop.example/g01223/laws.FnExactDeskVolume", spec := "fnExactDeskVolume", unfollowed := true, recurses := true, apart := false, narrowed := true }
def FnExactDeskVolumeUptoSaid : Prop := fnExactDeskVolumeUptoRow.holds Try.pinned (OpenSpec.upto fnExactDeskVolumeSpec)

end Rows
end Go.Proofs.Ytljkgemkolmihaa
