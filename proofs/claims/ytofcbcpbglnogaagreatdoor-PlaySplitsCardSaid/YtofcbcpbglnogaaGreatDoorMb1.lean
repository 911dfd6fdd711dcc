/- Calls, each by one run. -/
import Derived.Test.YtofcbcpbglnogaaGreatDoorMbO
set_option linter.all false
set_option maxRecDepth 100000
namespace Go.Proofs.YtofcbcpbglnogaaGreatDoor
open Go.RX
open Ab
def Mb0a : List SV := [.agg [n 1, n 5, n 5, n 60, uz, z, z, s 0 0 2 2], n 9, s 1 0 3 3]
def Mb0o : List (Nat × SObj) := [(0, MbS0), (1, MbS1)]
def Mb0x : SV := .tuple [t #[49, 48, 32, 108, 97, 117, 110, 99, 104, 32, 97, 32, 49, 48, 32, 49, 32, 49, 10, 49, 48, 32, 100, 111, 110, 101, 32, 97, 32, 49, 48, 32, 49, 32, 49, 10, 49, 48, 32, 108, 97, 117, 110, 99, 104, 32, 98, 32, 49, 48, 32, 49, 32, 50, 10, 49, 48, 32, 100, 111, 110, 101, 32, 98, 32, 49, 48, 32, 49, 32, 50, 10], z]
def Mb0u : List (Nat × Option SObj) := []
theorem Mb0r (σ : Sig) : endOkS (env σ) (MbC σ) Tryz.f8.ntmps MbSl8 Tryz.f8.results.toList MbB8 (cutSt (Sym.frameOf Mb0a MbSl8) Mb0o 2) Mb0x (after Mb0o Mb0u) 572 = true := by kernel_rfl
theorem Mb0p : updOk ⟨heapOf (after Mb0o Mb0u), 572, 0⟩ Mb0u = true := by kernel_rfl
theorem Mb0k : keptOk ⟨heapOf (after Mb0o Mb0u), 572, 0⟩ Mb0u Mb0o = true := by kernel_rfl
def Mb1a : List SV := [.agg [n 1, n 5, n 5, n 60, uz, z, z, s 0 0 2 2], n 9, s 1 0 3 3]
def Mb1o : List (Nat × SObj) := [(0, MbS0), (1, MbS1)]
def Mb1x : SV := .tuple [e 494 0 4 8 4, z]
def Mb1u : List (Nat × Option SObj) := [(494, some (C [n 1, n 10, z, n 10, n 1, n 1, z, z, n 2, n 10, z, n 10, n 1, n 1, z, z, n 1, n 10, n 1, n 10, n 1, n 2, z, z, n 2, n 10, n 1, n 10, n 1, n 2, z, z] 175))]
theorem Mb1r (σ : Sig) : endOkS (env σ) (MbC σ) Tryz.f14.ntmps MbSl14 Tryz.f14.results.toList MbB14 (cutSt (Sym.frameOf Mb1a MbSl14) Mb1o 2) Mb1x (after Mb1o Mb1u) 495 = true := by kernel_rfl
theorem Mb1p : updOk ⟨heapOf (after Mb1o Mb1u), 495, 0⟩ Mb1u = true := by kernel_rfl
theorem Mb1k : keptOk ⟨heapOf (after Mb1o Mb1u), 495, 0⟩ Mb1u Mb1o = true := by kernel_rfl
def Mb2a : List SV := [.agg [n 1, n 5, n 5, n 60, uz, z, z, s 0 0 2 2], n 9, s 1 0 3 3]
def Mb2o : List (Nat × SObj) := [(0, MbS0), (1, C [n 1, n 1, z, z, ff, t #[], n 3, z, z, n 1, tt, t #[], n 3, z, z, n 7, tt, t #[]] 63)]
def Mb2x : SV := .tuple [e 489 0 3 1 3, z]
def Mb2u : List (Nat × Option SObj) := [(489, some (C [z, n 1, n 3] 9))]
theorem Mb2r (σ : Sig) : endOkS (env σ) (MbC σ) Tryz.f10.ntmps MbSl10 Tryz.f10.results.toList MbB10 (cutSt (Sym.frameOf Mb2a MbSl10) Mb2o 2) Mb2x (after Mb2o Mb2u) 490 = true := by kernel_rfl
theorem Mb2p : updOk ⟨heapOf (after Mb2o Mb2u), 490, 0⟩ Mb2u = true := by kernel_rfl
theorem Mb2k : keptOk ⟨heapOf (after Mb2o Mb2u), 490, 0⟩ Mb2u Mb2o = true := by kernel_rfl
def Mb3a : List SV := [.agg [n 1, n 5, n 5, n 60, uz, z, z, s 0 0 2 2], n 9, n 3, n 1]
def Mb3o : List (Nat × SObj) := [(0, MbS0)]
def Mb3x : SV := .tuple [e 657 0 5 6 5, e 658 0 4 8 4, z]
def Mb3u : List (Nat × Option SObj) := [(657, some (C [n 1, n 1, z, z, ff, t #[], n 1, n 1, z, z, ff, t #[], n 3, z, z, n 1, tt, t #[], n 1, n 1, z, z, ff, t #[], n 3, z, z, n 2, tt, t #[]] 63)), (658, some (C [n 1, n 10, z, n 10, n 1, n 1, z, z, n 2, n 11, z, n 10, n 1, n 1, z, z, n 1, n 11, n 1, n 10, n 1, n 2, z, z, n 2, n 12, n 1, n 10, n 1, n 2, z, z] 175))]
theorem Mb3r (σ : Sig) : endOkS (env σ) (MbC σ) Tryz.f11.ntmps MbSl11 Tryz.f11.results.toList MbB11 (cutSt (Sym.frameOf Mb3a MbSl11) Mb3o 1) Mb3x (after Mb3o Mb3u) 660 = true := by kernel_rfl
theorem Mb3p : updOk ⟨heapOf (after Mb3o Mb3u), 660, 0⟩ Mb3u = true := by kernel_rfl
theorem Mb3k : keptOk ⟨heapOf (after Mb3o Mb3u), 660, 0⟩ Mb3u Mb3o = true := by kernel_rfl
end Go.Proofs.YtofcbcpbglnogaaGreatDoor
