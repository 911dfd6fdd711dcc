/- Objects that several states share; short names for cells. -/
import Derived.Test.YtofcbcpbglnogaaGreatDoorEnv
set_option linter.all false
set_option maxRecDepth 100000
namespace Go.Proofs.YtofcbcpbglnogaaGreatDoor
open Go.RX
namespace Ab
def z : SV := .int .i64 (.ofNat 0)
def n (k : Nat) : SV := .int .i64 (.ofNat k)
def mn (k : Nat) : SV := .int .i64 (.negSucc k)
def uz : SV := .int .u64 (.ofNat 0)
def u (k : Nat) : SV := .int .u64 (.ofNat k)
def b8 (k : Nat) : SV := .int .u8 (.ofNat k)
def ff : SV := .bool false
def tt : SV := .bool true
def ns : SV := .nilslice
def np : SV := .nilptr
def t (a : Array UInt8) : SV := .string ⟨a⟩
def p (i a : Nat) : SV := .ptr i a
def s (i a l c : Nat) : SV := .slice i a l (.exact c)
def e (i a l z k : Nat) : SV := .slice i a l (.toEnd z k)
def C (cs : List SV) (m : Nat) : SObj := .cells cs m
def M (es : List (SV × SV × Nat)) (c : Nat) : SObj := .map es c
end Ab
open Ab
def MaS0 : SObj := C [t #[97], n 2, uz, uz, uz, uz, uz, uz, ff, ff, z, n 10, n 10, z, ns, n 1, n 50, z, n 100, z, z, z, z, z, z, z, z, z, z, z, t #[98], n 2, uz, uz, uz, uz, uz, uz, ff, ff, z, n 10, n 10, z, ns, n 1, n 50, z, n 100, z, z, z, z, z, z, z, z, z, z, z] 135
def MaS1 : SObj := C [tt, n 1, n 2, n 1, n 1, z, z, z, z, z, z, z, z, z, z, z, z, z, z, z, z, z, z, z, z, z, z, z, z, z, z, z, z, z, z, z, z, z, z, z, z, z, z, z, z, z, z, z, z, z, z, z, z, z, z, z, z, z, z, z, z, z, z, z, z, z, z, z, z, z, z, z, z, z, z, z, z, z, z, z, z, z, z, z, z, z, z, z, z, z, z, z, z, z, z, z, z, z, z, z, z, z, z, z, z, z, z, z, z, z, z, z, z, z, z, z, z, z, z, z, z, z, z, z, z, z, z, z, z, z, z, z] 462
def MaS2 : SObj := C [ff, z, z, z, z, tt] 472
def MaS3 : SObj := C [z, z, ff, z, z, z, ff, z, z, z, ff, z, z, z, ff, z, z, z, ff, z] 803
def MaS4 : SObj := C [z, z, z, ff, z, z, z, z, z, tt] 478
def MaS5 : SObj := C [n 1, z, n 10, n 1, n 10] 251
def MaS6 : SObj := M [(n 1, .agg [n 1, n 10, n 1, n 10], 1)] 2
def MaS7 : SObj := C [n 1, n 50, n 10, n 2, z, z, z, z] 409
def MaS8 : SObj := M [(n 1, .agg [n 1, n 50, n 10, n 2], 1)] 2
def MaS9 : SObj := M [(n 1, .agg [n 110, n 2], 1)] 2
def MaS10 : SObj := C [tt, n 1, n 2, n 1, n 1, z, z, z, z, z, z, z, z, z, z, z, z, z, z, z, z, z, z, z, z, z, z, z, z, z, z, z, z, z, z, z, z, z, z, z, z, z, z, z, z, z, z, z, z, z, z, z, z, z, z, z, z, z, z, z, z, z, z, z, z, z, z, n 1, z, z, z, z, z, z, z, z, z, z, z, z, z, z, z, z, z, z, z, z, z, z, z, z, z, z, z, z, z, z, z, z, z, z, z, z, z, z, z, z, z, z, z, z, z, z, z, z, z, z, z, z, z, z, z, z, z, z, z, z, z, z, z, n 1] 462
def MaS11 : SObj := C [tt, n 10, n 10, z, z, tt] 472
def MaS12 : SObj := C [z, z, z, ff, z, z, z, z, n 10, tt] 478
def MaS13 : SObj := C [n 1, n 5, n 5, n 60, uz, z, z, e 1 0 2 30 2, n 10, s 2 0 2 2, e 3 0 2 1 2, p 4 0, p 5 0, p 6 0, p 7 0, e 8 0 1 5 1, n 1, n 2, .map 9, .map 10, ns] 226
def MaS14 : SObj := C [e 11 0 1 4 2, .map 12, n 5, n 60, n 2] 340
def MaS15 : SObj := C [.map 13, e 14 0 1 1 2, n 2] 332
def MaS16 : SObj := C [n 10, n 11, z, p 15 0, .map 16, ns, ns, ns, ns, ns, ns, ns, ns, ns, ns, ns, ns, ns, ns, ns, ns, ns, ns, ns, ns, ns, ns, ns, ns, ns, ns, ns, ns, ns, ns, ns, ns, ns, ns, ns, ns, ns, ns, ns, ns, ns, ns, ns, ns, ns, ns, ns, ns, ns, ns, ns, ns, ns, ns, ns, ns, ns, ns, ns, ns, ns, ns, ns, ns, ns, ns, ns, ns, ns, ns, ns, ns, ns, ns, ns, ns, ns, ns, ns, ns, ns, ns, ns, ns, ns, ns, ns, ns, ns, ns, ns, ns, ns, ns, ns, ns, ns, ns, ns, ns, ns, ns, ns, ns, ns, ns, ns, ns, ns, ns, ns, ns, ns, ns, ns, ns, ns, ns, ns, ns, ns, ns, ns, ns, ns, ns, ns, ns, ns, ns, ns, ns, ns, ns, ns, ns, ns, ns, ns, ns, ns, ns, ns, ns, ns, ns, ns, ns, ns, ns, ns, ns, ns, ns, ns, ns, ns, ns, ns, ns, ns, ns, ns, ns, ns, ns, ns, ns, ns, ns, ns, ns, ns, ns, ns, ns, ns, ns, ns, ns, ns, ns, ns, ns, ns, ns, ns, ns, ns, ns, ns, ns, ns, ns, ns, ns, ns, ns, ns, ns, ns, ns, ns, ns, ns, ns, ns, ns, ns, ns, ns, ns, ns, ns, ns, ns, ns, ns, ns, ns, ns, ns, ns, ns, ns, ns, ns, ns, ns, ns, ns, ns, ns, ns, ns, ns, ns, ns, ns, ns, ns, ns, ns, ns, ns, ns, ns, ns, ns, ns, ns, ns, ns, ns, ns, ns, uz, uz, uz, uz, ns] 360
def MaS17 : SObj := C [p 17 0, n 1, p 18 0, e 19 0 2 2 2, e 20 0 2 1 2, n 10] 304
def MaS18 : SObj := C [tt, s 21 0 5 5, mn 0, z, z, z] 490
def MaS19 : SObj := C [p 22 0, p 23 0, p 24 0, p 25 0] 319
def MaS20 : SObj := C [n 1, n 5, n 5, n 60, uz, z, z, e 1 0 2 30 2, n 10, s 2 0 2 2, e 3 0 2 1 2, p 4 0, p 5 0, p 6 0, p 7 0, e 8 0 1 5 1, n 2, n 2, .map 9, .map 10, ns] 226
def MaS21 : SObj := C [e 11 0 0 4 2, .map 12, n 5, n 60, n 2] 340
def MaS22 : SObj := C [.map 13, e 14 0 0 1 2, n 2] 332
def MaS23 : SObj := C [n 2, n 1, n 10, n 1, n 10] 251
def MaS24 : SObj := C [z, z, z, z, z, z, z, z] 409
def MaS25 : SObj := C [tt, n 1, n 2, n 1, n 1, z, z, z, z, z, z, z, z, z, z, z, z, z, z, z, z, z, z, z, z, z, z, z, z, z, z, z, z, z, z, z, z, z, z, z, z, z, z, z, z, z, z, z, z, z, z, z, z, z, z, z, z, z, z, z, z, z, z, z, z, z, z, z, n 1, z, z, z, z, z, z, z, z, z, z, z, z, z, z, z, z, z, z, z, z, z, z, z, z, z, z, z, z, z, z, z, z, z, z, z, z, z, z, z, z, z, z, z, z, z, z, z, z, z, z, z, z, z, z, z, z, z, z, z, z, z, z, n 1] 462
def MaS26 : SObj := C [n 1, n 5, n 5, n 60, uz, z, z, e 1 0 2 30 2, n 11, s 2 0 2 2, e 3 0 2 1 2, p 4 0, p 5 0, p 6 0, p 7 0, e 8 0 1 5 1, n 1, n 2, .map 9, .map 10, ns] 226
def MaS27 : SObj := C [n 11, n 12, z, p 15 0, .map 16, ns, ns, ns, ns, ns, ns, ns, ns, ns, ns, ns, ns, ns, ns, ns, ns, ns, ns, ns, ns, ns, ns, ns, ns, ns, ns, ns, ns, ns, ns, ns, ns, ns, ns, ns, ns, ns, ns, ns, ns, ns, ns, ns, ns, ns, ns, ns, ns, ns, ns, ns, ns, ns, ns, ns, ns, ns, ns, ns, ns, ns, ns, ns, ns, ns, ns, ns, ns, ns, ns, ns, ns, ns, ns, ns, ns, ns, ns, ns, ns, ns, ns, ns, ns, ns, ns, ns, ns, ns, ns, ns, ns, ns, ns, ns, ns, ns, ns, ns, ns, ns, ns, ns, ns, ns, ns, ns, ns, ns, ns, ns, ns, ns, ns, ns, ns, ns, ns, ns, ns, ns, ns, ns, ns, ns, ns, ns, ns, ns, ns, ns, ns, ns, ns, ns, ns, ns, ns, ns, ns, ns, ns, ns, ns, ns, ns, ns, ns, ns, ns, ns, ns, ns, ns, ns, ns, ns, ns, ns, ns, ns, ns, ns, ns, ns, ns, ns, ns, ns, ns, ns, ns, ns, ns, ns, ns, ns, ns, ns, ns, ns, ns, ns, ns, ns, ns, ns, ns, ns, ns, ns, ns, ns, ns, ns, ns, ns, ns, ns, ns, ns, ns, ns, ns, ns, ns, ns, ns, ns, ns, ns, ns, ns, ns, ns, ns, ns, ns, ns, ns, ns, ns, ns, ns, ns, ns, ns, ns, ns, ns, ns, ns, ns, ns, ns, ns, ns, ns, ns, ns, ns, ns, ns, ns, ns, ns, ns, ns, ns, ns, ns, ns, ns, ns, ns, ns, uz, uz, uz, uz, ns] 360
def MaS28 : SObj := C [n 1, n 5, n 5, n 60, uz, z, z, e 1 0 2 30 2, n 11, s 2 0 2 2, e 3 0 2 1 2, p 4 0, p 5 0, p 6 0, p 7 0, e 8 0 1 5 1, n 2, n 2, .map 9, .map 10, ns] 226
def MaS29 : SObj := C [p 17 0, n 1, p 18 0, e 19 0 2 2 2, e 20 0 2 1 2, n 11] 304
def MaS30 : SObj := C [n 2, n 1, n 10, n 1, n 11] 251
def MaS31 : SObj := C [tt, n 11, n 11, z, z, tt] 472
def MaS32 : SObj := C [z, z, z, ff, z, z, z, z, n 11, tt] 478
def MaS33 : SObj := C [n 1, n 5, n 5, n 60, uz, z, z, e 1 0 2 30 2, n 12, s 2 0 2 2, e 3 0 2 1 2, p 4 0, p 5 0, p 6 0, p 7 0, e 8 0 1 5 1, n 2, n 2, .map 9, .map 10, ns] 226
def MaS34 : SObj := C [n 12, n 13, z, p 15 0, .map 16, ns, ns, ns, ns, ns, ns, ns, ns, ns, ns, ns, ns, ns, ns, ns, ns, ns, ns, ns, ns, ns, ns, ns, ns, ns, ns, ns, ns, ns, ns, ns, ns, ns, ns, ns, ns, ns, ns, ns, ns, ns, ns, ns, ns, ns, ns, ns, ns, ns, ns, ns, ns, ns, ns, ns, ns, ns, ns, ns, ns, ns, ns, ns, ns, ns, ns, ns, ns, ns, ns, ns, ns, ns, ns, ns, ns, ns, ns, ns, ns, ns, ns, ns, ns, ns, ns, ns, ns, ns, ns, ns, ns, ns, ns, ns, ns, ns, ns, ns, ns, ns, ns, ns, ns, ns, ns, ns, ns, ns, ns, ns, ns, ns, ns, ns, ns, ns, ns, ns, ns, ns, ns, ns, ns, ns, ns, ns, ns, ns, ns, ns, ns, ns, ns, ns, ns, ns, ns, ns, ns, ns, ns, ns, ns, ns, ns, ns, ns, ns, ns, ns, ns, ns, ns, ns, ns, ns, ns, ns, ns, ns, ns, ns, ns, ns, ns, ns, ns, ns, ns, ns, ns, ns, ns, ns, ns, ns, ns, ns, ns, ns, ns, ns, ns, ns, ns, ns, ns, ns, ns, ns, ns, ns, ns, ns, ns, ns, ns, ns, ns, ns, ns, ns, ns, ns, ns, ns, ns, ns, ns, ns, ns, ns, ns, ns, ns, ns, ns, ns, ns, ns, ns, ns, ns, ns, ns, ns, ns, ns, ns, ns, ns, ns, ns, ns, ns, ns, ns, ns, ns, ns, ns, ns, ns, ns, ns, ns, ns, ns, ns, ns, ns, ns, ns, ns, ns, uz, uz, uz, uz, ns] 360
noncomputable def MaB19 : Code := match Tryz.f19.body with | some c => c | none => .skip
theorem MaB19_body : Tryz.f19.body = some MaB19 := by kernel_rfl
theorem MaB19_name (vals : Array Value) (w : World) : (callFunc 19 vals).run Tryz.prog w = .ok (.enter 19 vals) w := by kernel_rfl
def MaSl19 : List Nat := [68, 67, 66, 65, 26, 19, 11, 10, 8, 7, 6, 5, 4, 2, 1, 0]
noncomputable def MaB21 : Code := match Tryz.f21.body with | some c => c | none => .skip
theorem MaB21_body : Tryz.f21.body = some MaB21 := by kernel_rfl
theorem MaB21_name (vals : Array Value) (w : World) : (callFunc 21 vals).run Tryz.prog w = .ok (.enter 21 vals) w := by kernel_rfl
def MaSl21 : List Nat := [28, 19, 11, 8, 7, 6, 5, 4, 3, 1, 0]
noncomputable def MaC (σ : Sig) : Sym.Callee := semK (env σ) (know σ) 60
end Go.Proofs.YtofcbcpbglnogaaGreatDoor
