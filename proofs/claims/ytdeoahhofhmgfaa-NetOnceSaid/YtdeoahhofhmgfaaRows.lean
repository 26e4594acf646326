/-
  No cell of these rows narrows 'for every input' (looked for: loops, veiled, ifaces, maps, wideKeys, modest, calm, conditions, laid).
  DERIVED. THE GIVEN ROWS OF THIS SEAT. 12 by the template 'for every input the law returns true; each argument reads behind the call as it read before'; 0 by the template 'total and deterministic' (their statements: YtdeoahhofhmgfaaTotals.lean).
  GIVEN WITH THE SEED: the statements are not yours to turn. If you find one false, say at which input.
  Laid BY PROGRAM, IN A SANDBOX (cutbox-rows.mjs): the forced cells as the released guide's own fill.sh prints them over the translation 7de6374706fa41ed… (all of the seat's roots in one cut). By AI agents, Wed Nov 11 2026. No macro, syntax, notation, axiom, sorry.
-/
import Derived.Test.YtdeoahhofhmgfaaChecked
import GoSem.Claim
import GoSem.ClaimJoined
import GoSem.ClaimMapViews
import Derived.JoinedTies
import Derived.KernelRfl
namespace Go.Proofs.Ytdeoahhofhmgfaa
/- THE CELL 'sum', in the pinned program and in every row, IS THE sha256 OF THE DUMP (.gsa) THAT YtdeoahhofhmgfaaProg.lean LOADS. Nothing in Lean hashes anything: it is a label: what it is worth is what the hold of that sum in a sandbox is worth. -/
noncomputable def Try.pinned : Pinned := { name := "ytdeoahhofhmgfaa", sum := "7de6374706fa41eddab9efd213132e7bfbe49c061bd0a1362622b177e974934a", checked := Try.checked }
namespace Rows
def none {H : Type} : Left H := { results := [], args := [] }

/-- 'reevelaw10.NetFull': WHATEVER THE INPUT: true; the input reads as it did. -/
def netFullSpec : ChangeSpec := { name := "netFull", fn := fun _ => fun
  | [d1, d2, d3, d4] => { results := [.lit (.bool true)], args := [d1, d2, d3, d4] }
  | _ => none }
def netFullRow : OpenClaim := { program := "ytdeoahhofhmgfaa", sum := "7de6374706fa41eddab9efd213132e7bfbe49c061bd0a1362622b177e974934a", func := "reeve/reevelaw10.NetFull", spec := "netFull", plainKeys := false, apart := false }
def NetFullSaid : Prop := netFullRow.holds Try.pinned (OpenSpec.ofChange netFullSpec)

/-- ITS FALSE NEIGHBOUR: 'it returns false'. Refute it at one input. -/
def netFullWrong : ChangeSpec := { name := "netFull", fn := fun _ => fun
  | [d1, d2, d3, d4] => { results := [.lit (.bool false)], args := [d1, d2, d3, d4] }
  | _ => none }
def NetFullWrongFalsely : Prop := netFullRow.holds Try.pinned (OpenSpec.ofChange netFullWrong)

/-- 'reevelaw10.NetPlays': WHATEVER THE INPUT: true; the input reads as it did. -/
def netPlaysSpec : ChangeSpec := { name := "netPlays", fn := fun _ => fun
  | [d] => { results := [.lit (.bool true)], args := [d] }
  | _ => none }
def netPlaysRow : OpenClaim := { program := "ytdeoahhofhmgfaa", sum := "7de6374706fa41eddab9efd213132e7bfbe49c061bd0a1362622b177e974934a", func := "reeve/reevelaw10.NetPlays", spec := "netPlays", unfollowed := true, recurses := true, plainKeys := false, apart := false }
def NetPlaysSaid : Prop := netPlaysRow.holds Try.pinned (OpenSpec.ofChange netPlaysSpec)

/-- ITS FALSE NEIGHBOUR: 'it returns false'. Refute it at one input. -/
def netPlaysWrong : ChangeSpec := { name := "netPlays", fn := fun _ => fun
  | [d] => { results := [.lit (.bool false)], args := [d] }
  | _ => none }
def NetPlaysWrongFalsely : Prop := netPlaysRow.holds Try.pinned (OpenSpec.ofChange netPlaysWrong)

/-- 'reevelaw10.NetOnce': WHATEVER THE INPUT: true; the input reads as it did. -/
def netOnceSpec : ChangeSpec := { name := "netOnce", fn := fun _ => fun
  | [d] => { results := [.lit (.bool true)], args := [d] }
  | _ => none }
def netOnceRow : OpenClaim := { program := "ytdeoahhofhmgfaa", sum := "7de6374706fa41eddab9efd213132e7bfbe49c061bd0a1362622b177e974934a", func := "reeve/reevelaw10.NetOnce", spec := "netOnce", unfollowed := true, recurses := true, plainKeys := false, apart := false }
def NetOnceSaid : Prop := netOnceRow.holds Try.pinned (OpenSpec.ofChange netOnceSpec)

/-- ITS FALSE NEIGHBOUR: 'it returns false'. Refute it at one input. -/
def netOnceWrong : ChangeSpec := { name := "netOnce", fn := fun _ => fun
  | [d] => { results := [.lit (.bool false)], args := [d] }
  | _ => none }
def NetOnceWrongFalsely : Prop := netOnceRow.holds Try.pinned (OpenSpec.ofChange netOnceWrong)

/-- 'reevelaw10.NetNone': WHATEVER THE INPUT: true; the input reads as it did. -/
def netNoneSpec : ChangeSpec := { name := "netNone", fn := fun _ => fun
  | [d1, d2, d3] => { results := [.lit (.bool true)], args := [d1, d2, d3] }
  | _ => none }
def netNoneRow : OpenClaim := { program := "ytdeoahhofhmgfaa", sum := "7de6374706fa41eddab9efd213132e7bfbe49c061bd0a1362622b177e974934a", func := "reeve/reevelaw10.NetNone", spec := "netNone", unfollowed := true, recurses := true, plainKeys := false, apart := false }
def NetNoneSaid : Prop := netNoneRow.holds Try.pinned (OpenSpec.ofChange netNoneSpec)

/-- ITS FALSE NEIGHBOUR: 'it returns false'. Refute it at one input. -/
def netNoneWrong : ChangeSpec := { name := "netNone", fn := fun _ => fun
  | [d1, d2, d3] => { results := [.lit (.bool false)], args := [d1, d2, d3] }
  | _ => none }
def NetNoneWrongFalsely : Prop := netNoneRow.holds Try.pinned (OpenSpec.ofChange netNoneWrong)

/-- 'reevelaw10.NetReady': WHATEVER THE INPUT: true; the input reads as it did. -/
def netReadySpec : ChangeSpec := { name := "netReady", fn := fun _ => fun
  | [d] => { results := [.lit (.bool true)], args := [d] }
  | _ => none }
def netReadyRow : OpenClaim := { program := "ytdeoahhofhmgfaa", sum := "7de6374706fa41eddab9efd213132e7bfbe49c061bd0a1362622b177e974934a", func := "reeve/reevelaw10.NetReady", spec := "netReady", unfollowed := true, recurses := true, plainKeys := false, apart := false }
def NetReadySaid : Prop := netReadyRow.holds Try.pinned (OpenSpec.ofChange netReadySpec)

/-- ITS FALSE NEIGHBOUR: 'it returns false'. Refute it at one input. -/
def netReadyWrong : ChangeSpec := { name := "netReady", fn := fun _ => fun
  | [d] => { results := [.lit (.bool false)], args := [d] }
  | _ => none }
def NetReadyWrongFalsely : Prop := netReadyRow.holds Try.pinned (OpenSpec.ofChange netReadyWrong)

/-- 'reevelaw15.SlotsTrim': WHATEVER THE INPUT: true; the input reads as it did. -/
def slotsTrimSpec : ChangeSpec := { name := "slotsTrim", fn := fun _ => fun
  | [d1, d2, d3] => { results := [.lit (.bool true)], args := [d1, d2, d3] }
  | _ => none }
def slotsTrimRow : OpenClaim := { program := "ytdeoahhofhmgfaa", sum := "7de6374706fa41eddab9efd213132e7bfbe49c061bd0a1362622b177e974934a", func := "reeve/reevelaw15.SlotsTrim", spec := "slotsTrim", unfollowed := true, recurses := true, plainKeys := false, apart := false }
def SlotsTrimSaid : Prop := slotsTrimRow.holds Try.pinned (OpenSpec.ofChange slotsTrimSpec)

/-- ITS FALSE NEIGHBOUR: 'it returns false'. Refute it at one input. -/
def slotsTrimWrong : ChangeSpec := { name := "slotsTrim", fn := fun _ => fun
  | [d1, d2, d3] => { results := [.lit (.bool false)], args := [d1, d2, d3] }
  | _ => none }
def SlotsTrimWrongFalsely : Prop := slotsTrimRow.holds Try.pinned (OpenSpec.ofChange slotsTrimWrong)

/-- 'reevelaw15.SlotsNone': WHATEVER THE INPUT: true; the input reads as it did. -/
def slotsNoneSpec : ChangeSpec := { name := "slotsNone", fn := fun _ => fun
  | [d1, d2] => { results := [.lit (.bool true)], args := [d1, d2] }
  | _ => none }
def slotsNoneRow : OpenClaim := { program := "ytdeoahhofhmgfaa", sum := "7de6374706fa41eddab9efd213132e7bfbe49c061bd0a1362622b177e974934a", func := "reeve/reevelaw15.SlotsNone", spec := "slotsNone", unfollowed := true, recurses := true, plainKeys := false, apart := false }
def SlotsNoneSaid : Prop := slotsNoneRow.holds Try.pinned (OpenSpec.ofChange slotsNoneSpec)

/-- ITS FALSE NEIGHBOUR: 'it returns false'. Refute it at one input. -/
def slotsNoneWrong : ChangeSpec := { name := "slotsNone", fn := fun _ => fun
  | [d1, d2] => { results := [.lit (.bool false)], args := [d1, d2] }
  | _ => none }
def SlotsNoneWrongFalsely : Prop := slotsNoneRow.holds Try.pinned (OpenSpec.ofChange slotsNoneWrong)

/-- 'reevelaw26.LeasePlays': WHATEVER THE INPUT: true; the input reads as it did. -/
def leasePlaysSpec : ChangeSpec := { name := "leasePlays", fn := fun _ => fun
  | [d1, d2, d3, d4, d5, d6] => { results := [.lit (.bool true)], args := [d1, d2, d3, d4, d5, d6] }
  | _ => none }
def leasePlaysRow : OpenClaim := { program := "ytdeoahhofhmgfaa", sum := "7de6374706fa41eddab9efd213132e7bfbe49c061bd0a1362622b177e974934a", func := "reeve/reevelaw26.LeasePlays", spec := "leasePlays", unfollowed := true, recurses := true, plainKeys := false, apart := false }
def LeasePlaysSaid : Prop := leasePlaysRow.holds Try.pinned (OpenSpec.ofChange leasePlaysSpec)

/-- ITS FALSE NEIGHBOUR: 'it returns false'. Refute it at one input. -/
def leasePlaysWrong : ChangeSpec := { name := "leasePlays", fn := fun _ => fun
  | [d1, d2, d3, d4, d5, d6] => { results := [.lit (.bool false)], args := [d1, d2, d3, d4, d5, d6] }
  | _ => none }
def LeasePlaysWrongFalsely : Prop := leasePlaysRow.holds Try.pinned (OpenSpec.ofChange leasePlaysWrong)

/-- 'reevelaw26.LeaseKeeps': WHATEVER THE INPUT: true; the input reads as it did. -/
def leaseKeepsSpec : ChangeSpec := { name := "leaseKeeps", fn := fun _ => fun
  | [d1, d2, d3] => { results := [.lit (.bool true)], args := [d1, d2, d3] }
  | _ => none }
def leaseKeepsRow : OpenClaim := { program := "ytdeoahhofhmgfaa", sum := "7de6374706fa41eddab9efd213132e7bfbe49c061bd0a1362622b177e974934a", func := "reeve/reevelaw26.LeaseKeeps", spec := "leaseKeeps", unfollowed := true, recurses := true, plainKeys := false, apart := false }
def LeaseKeepsSaid : Prop := leaseKeepsRow.holds Try.pinned (OpenSpec.ofChange leaseKeepsSpec)

/-- ITS FALSE NEIGHBOUR: 'it returns false'. Refute it at one input. -/
def leaseKeepsWrong : ChangeSpec := { name := "leaseKeeps", fn := fun _ => fun
  | [d1, d2, d3] => { results := [.lit (.bool false)], args := [d1, d2, d3] }
  | _ => none }
def LeaseKeepsWrongFalsely : Prop := leaseKeepsRow.holds Try.pinned (OpenSpec.ofChange leaseKeepsWrong)

/-- 'reevelaw26.LeaseRenew': WHATEVER THE INPUT: true; the input reads as it did. -/
def leaseRenewSpec : ChangeSpec := { name := "leaseRenew", fn := fun _ => fun
  | [d1, d2, d3, d4] => { results := [.lit (.bool true)], args := [d1, d2, d3, d4] }
  | _ => none }
def leaseRenewRow : OpenClaim := { program := "ytdeoahhofhmgfaa", sum := "7de6374706fa41eddab9efd213132e7bfbe49c061bd0a1362622b177e974934a", func := "reeve/reevelaw26.LeaseRenew", spec := "leaseRenew", unfollowed := true, recurses := true, plainKeys := false, apart := false }
def LeaseRenewSaid : Prop := leaseRenewRow.holds Try.pinned (OpenSpec.ofChange leaseRenewSpec)

/-- ITS FALSE NEIGHBOUR: 'it returns false'. Refute it at one input. -/
def leaseRenewWrong : ChangeSpec := { name := "leaseRenew", fn := fun _ => fun
  | [d1, d2, d3, d4] => { results := [.lit (.bool false)], args := [d1, d2, d3, d4] }
  | _ => none }
def LeaseRenewWrongFalsely : Prop := leaseRenewRow.holds Try.pinned (OpenSpec.ofChange leaseRenewWrong)

/-- 'reevelaw26.LeaseOne': WHATEVER THE INPUT: true; the input reads as it did. -/
def leaseOneSpec : ChangeSpec := { name := "leaseOne", fn := fun _ => fun
  | [d1, d2, d3, d4] => { results := [.lit (.bool true)], args := [d1, d2, d3, d4] }
  | _ => none }
def leaseOneRow : OpenClaim := { program := "ytdeoahhofhmgfaa", sum := "7de6374706fa41eddab9efd213132e7bfbe49c061bd0a1362622b177e974934a", func := "reeve/reevelaw26.LeaseOne", spec := "leaseOne", unfollowed := true, recurses := true, plainKeys := false, apart := false }
def LeaseOneSaid : Prop := leaseOneRow.holds Try.pinned (OpenSpec.ofChange leaseOneSpec)

/-- ITS FALSE NEIGHBOUR: 'it returns false'. Refute it at one input. -/
def leaseOneWrong : ChangeSpec := { name := "leaseOne", fn := fun _ => fun
  | [d1, d2, d3, d4] => { results := [.lit (.bool false)], args := [d1, d2, d3, d4] }
  | _ => none }
def LeaseOneWrongFalsely : Prop := leaseOneRow.holds Try.pinned (OpenSpec.ofChange leaseOneWrong)

/-- 'reevelaw26.LeaseNone': WHATEVER THE INPUT: true; the input reads as it did. -/
def leaseNoneSpec : ChangeSpec := { name := "leaseNone", fn := fun _ => fun
  | [d1, d2] => { results := [.lit (.bool true)], args := [d1, d2] }
  | _ => none }
def leaseNoneRow : OpenClaim := { program := "ytdeoahhofhmgfaa", sum := "7de6374706fa41eddab9efd213132e7bfbe49c061bd0a1362622b177e974934a", func := "reeve/reevelaw26.LeaseNone", spec := "leaseNone", unfollowed := true, recurses := true, plainKeys := false, apart := false }
def LeaseNoneSaid : Prop := leaseNoneRow.holds Try.pinned (OpenSpec.ofChange leaseNoneSpec)

/-- ITS FALSE NEIGHBOUR: 'it returns false'. Refute it at one input. -/
def leaseNoneWrong : ChangeSpec := { name := "leaseNone", fn := fun _ => fun
  | [d1, d2] => { results := [.lit (.bool false)], args := [d1, d2] }
  | _ => none }
def LeaseNoneWrongFalsely : Prop := leaseNoneRow.holds Try.pinned (OpenSpec.ofChange leaseNoneWrong)

/- THE SECOND FORM. 'bulk': how many values and letters a reading holds, each counted each time it is reached (what is shared counts as often as it is met; a slice's spare places count too). A statement '..UptoSaid' is the law's where the arguments, and the package variables that the reading takes, are together of bulk at most 1048576: NARROWER than '..Said'. Prove '..Said' where nothing that the law and all that it calls make is longer than what came in: it says more and counts as full. Else prove '..UptoSaid'. A law counts once. -/
mutual
def uptoBulk {H : Type} : DataW H → Nat
  | .lit (.string bytes) => bytes.length + 1
  | .lit _ => 1
  | .nil => 1
  | .ptr d => uptoBulk d + 1
  | .slice elems spare => uptoBulkAll elems + uptoBulkAll spare + 1
  | .agg parts => uptoBulkAll parts + 1
  | .iface _ d => uptoBulk d + 1
  | .map entries => uptoBulkEntries entries + 1
  | .held _ => 1
def uptoBulkAll {H : Type} : List (DataW H) → Nat
  | [] => 0
  | d :: r => uptoBulk d + uptoBulkAll r
def uptoBulkEntries {H : Type} : List (Lit × DataW H) → Nat
  | [] => 0
  | x :: r => uptoBulkEntry x + uptoBulkEntries r
def uptoBulkEntry {H : Type} : Lit × DataW H → Nat
  | (.string bytes, d) => bytes.length + uptoBulk d + 1
  | (_, d) => uptoBulk d + 1
 end
def uptoSmall : (H : Type) → List (DataW H) → Bool := fun _ ds => decide (uptoBulkAll ds ≤ 1048576)
def OpenSpec.upto (s : _root_.Go.ChangeSpec) : _root_.Go.OpenSpec := { _root_.Go.OpenSpec.ofChange s with cond := some uptoSmall }

/-- 'reevelaw10.NetFull', WHERE WHAT IT READS IS OF BULK AT MOST 1048576: true; the input reads as it did. -/
def netFullUptoRow : OpenClaim := { program := "ytdeoahhofhmgfaa", sum := "7de6374706fa41eddab9efd213132e7bfbe49c061bd0a1362622b177e974934a", func := "reeve/reevelaw10.NetFull", spec := "netFull", plainKeys := false, apart := false, narrowed := true }
def NetFullUptoSaid : Prop := netFullUptoRow.holds Try.pinned (OpenSpec.upto netFullSpec)

/-- 'reevelaw10.NetPlays', WHERE WHAT IT READS IS OF BULK AT MOST 1048576: true; the input reads as it did. -/
def netPlaysUptoRow : OpenClaim := { program := "ytdeoahhofhmgfaa", sum := "7de6374706fa41eddab9efd213132e7bfbe49c061bd0a1362622b177e974934a", func := "reeve/reevelaw10.NetPlays", spec := "netPlays", unfollowed := true, recurses := true, plainKeys := false, apart := false, narrowed := true }
def NetPlaysUptoSaid : Prop := netPlaysUptoRow.holds Try.pinned (OpenSpec.upto netPlaysSpec)

/-- 'reevelaw10.NetOnce', WHERE WHAT IT READS IS OF BULK AT MOST 1048576: true; the input reads as it did. -/
def netOnceUptoRow : OpenClaim := { program := "ytdeoahhofhmgfaa", sum := "7de6374706fa41eddab9efd213132e7bfbe49c061bd0a1362622b177e974934a", func := "reeve/reevelaw10.NetOnce", spec := "netOnce", unfollowed := true, recurses := true, plainKeys := false, apart := false, narrowed := true }
def NetOnceUptoSaid : Prop := netOnceUptoRow.holds Try.pinned (OpenSpec.upto netOnceSpec)

/-- 'reevelaw10.NetNone', WHERE WHAT IT READS IS OF BULK AT MOST 1048576: true; the input reads as it did. -/
def netNoneUptoRow : OpenClaim := { program := "ytdeoahhofhmgfaa", sum := "7de6374706fa41eddab9efd213132e7bfbe49c061bd0a1362622b177e974934a", func := "reeve/reevelaw10.NetNone", spec := "netNone", unfollowed := true, recurses := true, plainKeys := false, apart := false, narrowed := true }
def NetNoneUptoSaid : Prop := netNoneUptoRow.holds Try.pinned (OpenSpec.upto netNoneSpec)

/-- 'reevelaw10.NetReady', WHERE WHAT IT READS IS OF BULK AT MOST 1048576: true; the input reads as it did. -/
def netReadyUptoRow : OpenClaim := { program := "ytdeoahhofhmgfaa", sum := "7de6374706fa41eddab9efd213132e7bfbe49c061bd0a1362622b177e974934a", func := "reeve/reevelaw10.NetReady", spec := "netReady", unfollowed := true, recurses := true, plainKeys := false, apart := false, narrowed := true }
def NetReadyUptoSaid : Prop := netReadyUptoRow.holds Try.pinned (OpenSpec.upto netReadySpec)

/-- 'reevelaw15.SlotsTrim', WHERE WHAT IT READS IS OF BULK AT MOST 1048576: true; the input reads as it did. -/
def slotsTrimUptoRow : OpenClaim := { program := "ytdeoahhofhmgfaa", sum := "7de6374706fa41eddab9efd213132e7bfbe49c061bd0a1362622b177e974934a", func := "reeve/reevelaw15.SlotsTrim", spec := "slotsTrim", unfollowed := true, recurses := true, plainKeys := false, apart := false, narrowed := true }
def SlotsTrimUptoSaid : Prop := slotsTrimUptoRow.holds Try.pinned (OpenSpec.upto slotsTrimSpec)

/-- 'reevelaw15.SlotsNone', WHERE WHAT IT READS IS OF BULK AT MOST 1048576: true; the input reads as it did. -/
def slotsNoneUptoRow : OpenClaim := { program := "ytdeoahhofhmgfaa", sum := "7de6374706fa41eddab9efd213132e7bfbe49c061bd0a1362622b177e974934a", func := "reeve/reevelaw15.SlotsNone", spec := "slotsNone", unfollowed := true, recurses := true, plainKeys := false, apart := false, narrowed := true }
def SlotsNoneUptoSaid : Prop := slotsNoneUptoRow.holds Try.pinned (OpenSpec.upto slotsNoneSpec)

/-- 'reevelaw26.LeasePlays', WHERE WHAT IT READS IS OF BULK AT MOST 1048576: true; the input reads as it did. -/
def leasePlaysUptoRow : OpenClaim := { program := "ytdeoahhofhmgfaa", sum := "7de6374706fa41eddab9efd213132e7bfbe49c061bd0a1362622b177e974934a", func := "reeve/reevelaw26.LeasePlays", spec := "leasePlays", unfollowed := true, recurses := true, plainKeys := false, apart := false, narrowed := true }
def LeasePlaysUptoSaid : Prop := leasePlaysUptoRow.holds Try.pinned (OpenSpec.upto leasePlaysSpec)

/-- 'reevelaw26.LeaseKeeps', WHERE WHAT IT READS IS OF BULK AT MOST 1048576: true; the input reads as it did. -/
def leaseKeepsUptoRow : OpenClaim := { program := "ytdeoahhofhmgfaa", sum := "7de6374706fa41eddab9efd213132e7bfbe49c061bd0a1362622b177e974934a", func := "reeve/reevelaw26.LeaseKeeps", spec := "leaseKeeps", unfollowed := true, recurses := true, plainKeys := false, apart := false, narrowed := true }
def LeaseKeepsUptoSaid : Prop := leaseKeepsUptoRow.holds Try.pinned (OpenSpec.upto leaseKeepsSpec)

/-- 'reevelaw26.LeaseRenew', WHERE WHAT IT READS IS OF BULK AT MOST 1048576: true; the input reads as it did. -/
def leaseRenewUptoRow : OpenClaim := { program := "ytdeoahhofhmgfaa", sum := "7de6374706fa41eddab9efd213132e7bfbe49c061bd0a1362622b177e974934a", func := "reeve/reevelaw26.LeaseRenew", spec := "leaseRenew", unfollowed := true, recurses := true, plainKeys := false, apart := false, narrowed := true }
def LeaseRenewUptoSaid : Prop := leaseRenewUptoRow.holds Try.pinned (OpenSpec.upto leaseRenewSpec)

/-- 'reevelaw26.LeaseOne', WHERE WHAT IT READS IS OF BULK AT MOST 1048576: true; the input reads as it did. -/
def leaseOneUptoRow : OpenClaim := { program := "ytdeoahhofhmgfaa", sum := "7de6374706fa41eddab9efd213132e7bfbe49c061bd0a1362622b177e974934a", func := "reeve/reevelaw26.LeaseOne", spec := "leaseOne", unfollowed := true, recurses := true, plainKeys := false, apart := false, narrowed := true }
def LeaseOneUptoSaid : Prop := leaseOneUptoRow.holds Try.pinned (OpenSpec.upto leaseOneSpec)

/-- 'reevelaw26.LeaseNone', WHERE WHAT IT READS IS OF BULK AT MOST 1048576: true; the input reads as it did. -/
def leaseNoneUptoRow : OpenClaim := { program := "ytdeoahhofhmgfaa", sum := "7de6374706fa41eddab9efd213132e7bfbe49c061bd0a1362622b177e974934a", func := "reeve/reevelaw26.LeaseNone", spec := "leaseNone", unfollowed := true, recurses := true, plainKeys := false, apart := false, narrowed := true }
def LeaseNoneUptoSaid : Prop := leaseNoneUptoRow.holds Try.pinned (OpenSpec.upto leaseNoneSpec)

end Rows
end Go.Proofs.Ytdeoahhofhmgfaa
