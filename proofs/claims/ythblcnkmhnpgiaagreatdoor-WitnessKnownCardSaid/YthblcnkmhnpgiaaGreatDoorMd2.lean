/- Calls, each by one run. -/
import Derived.Test.YthblcnkmhnpgiaaGreatDoorMdO
set_option linter.all false
set_option maxRecDepth 100000
namespace Go.Proofs.YthblcnkmhnpgiaaGreatDoor
open Go.RX
open Ab
def Md12a : List SV := [p 0 0, .agg [n 1, n 1, z, z, ff, t #[]]]
def Md12o : List (Nat × SObj) := [(0, MdS53), (1, MdS0), (2, C [ff, ff] 11), (3, C [n 1, z] 7), (4, MdS32), (5, MdS33), (6, MdS54), (7, MdS45), (8, C [z, z, z, z, z] 269), (9, M [] 3), (10, M [] 1), (11, C [z, z, z, z] 441), (12, M [] 2), (13, M [] 2), (14, C [z] 9), (15, MdS27), (16, M [] 1), (17, MdS1), (18, MdS37), (19, MdS28), (20, C [n 1, n 1] 9), (21, MdS25), (22, MdS38), (23, MdS46), (24, MdS12), (25, MdS39)]
def Md12x : SV := .tuple [ns, z]
def Md12u : List (Nat × Option SObj) := [(0, some (MdS55)), (6, some (MdS56))]
theorem Md12r (σ : Sig) : endOkS (env σ) (MdC σ) Tryz.f29.ntmps MdSl29 Tryz.f29.results.toList MdB29 (cutSt (Sym.frameOf Md12a MdSl29) Md12o 26) Md12x (after Md12o Md12u) 89 = true := by kernel_rfl
theorem Md12p : updOk ⟨heapOf (after Md12o Md12u), 89, 0⟩ Md12u = true := by kernel_rfl
theorem Md12k : keptOk ⟨heapOf (after Md12o Md12u), 89, 0⟩ Md12u Md12o = true := by kernel_rfl
def Md13a : List SV := [p 0 0, .agg [n 1, n 1, z, z, ff, t #[]]]
def Md13o : List (Nat × SObj) := [(0, MdS55), (1, MdS0), (2, C [ff, ff] 11), (3, C [n 1, z] 7), (4, MdS32), (5, MdS33), (6, MdS56), (7, MdS45), (8, C [z, z, z, z, z] 269), (9, M [] 3), (10, M [] 1), (11, C [z, z, z, z] 441), (12, M [] 2), (13, M [] 2), (14, C [z] 9), (15, MdS27), (16, M [] 1), (17, MdS1), (18, MdS37), (19, MdS28), (20, C [n 1, n 1] 9), (21, MdS25), (22, MdS38), (23, MdS46), (24, MdS12), (25, MdS39)]
def Md13x : SV := .tuple [ns, z]
def Md13u : List (Nat × Option SObj) := [(0, some (MdS57)), (6, some (MdS58))]
theorem Md13r (σ : Sig) : endOkS (env σ) (MdC σ) Tryz.f29.ntmps MdSl29 Tryz.f29.results.toList MdB29 (cutSt (Sym.frameOf Md13a MdSl29) Md13o 26) Md13x (after Md13o Md13u) 89 = true := by kernel_rfl
theorem Md13p : updOk ⟨heapOf (after Md13o Md13u), 89, 0⟩ Md13u = true := by kernel_rfl
theorem Md13k : keptOk ⟨heapOf (after Md13o Md13u), 89, 0⟩ Md13u Md13o = true := by kernel_rfl
def Md14a : List SV := [p 0 0, .agg [n 1, n 1, z, z, ff, t #[]]]
def Md14o : List (Nat × SObj) := [(0, MdS57), (1, MdS0), (2, C [ff, ff] 11), (3, C [n 1, z] 7), (4, MdS32), (5, MdS33), (6, MdS58), (7, MdS45), (8, C [z, z, z, z, z] 269), (9, M [] 3), (10, M [] 1), (11, C [z, z, z, z] 441), (12, M [] 2), (13, M [] 2), (14, C [z] 9), (15, MdS27), (16, M [] 1), (17, MdS1), (18, MdS37), (19, MdS28), (20, C [n 1, n 1] 9), (21, MdS25), (22, MdS38), (23, MdS46), (24, MdS12), (25, MdS39)]
def Md14x : SV := .tuple [ns, z]
def Md14u : List (Nat × Option SObj) := [(0, some (MdS59)), (6, some (MdS60))]
theorem Md14r (σ : Sig) : endOkS (env σ) (MdC σ) Tryz.f29.ntmps MdSl29 Tryz.f29.results.toList MdB29 (cutSt (Sym.frameOf Md14a MdSl29) Md14o 26) Md14x (after Md14o Md14u) 89 = true := by kernel_rfl
theorem Md14p : updOk ⟨heapOf (after Md14o Md14u), 89, 0⟩ Md14u = true := by kernel_rfl
theorem Md14k : keptOk ⟨heapOf (after Md14o Md14u), 89, 0⟩ Md14u Md14o = true := by kernel_rfl
def Md15a : List SV := [p 0 0, .agg [n 1, n 1, z, z, ff, t #[]]]
def Md15o : List (Nat × SObj) := [(0, MdS59), (1, MdS0), (2, C [ff, ff] 11), (3, C [n 1, z] 7), (4, MdS32), (5, MdS33), (6, MdS60), (7, MdS45), (8, C [z, z, z, z, z] 269), (9, M [] 3), (10, M [] 1), (11, C [z, z, z, z] 441), (12, M [] 2), (13, M [] 2), (14, C [z] 9), (15, MdS27), (16, M [] 1), (17, MdS1), (18, MdS37), (19, MdS28), (20, C [n 1, n 1] 9), (21, MdS25), (22, MdS38), (23, MdS46), (24, MdS12), (25, MdS39)]
def Md15x : SV := .tuple [ns, z]
def Md15u : List (Nat × Option SObj) := [(0, some (MdS61)), (6, some (MdS62))]
theorem Md15r (σ : Sig) : endOkS (env σ) (MdC σ) Tryz.f29.ntmps MdSl29 Tryz.f29.results.toList MdB29 (cutSt (Sym.frameOf Md15a MdSl29) Md15o 26) Md15x (after Md15o Md15u) 89 = true := by kernel_rfl
theorem Md15p : updOk ⟨heapOf (after Md15o Md15u), 89, 0⟩ Md15u = true := by kernel_rfl
theorem Md15k : keptOk ⟨heapOf (after Md15o Md15u), 89, 0⟩ Md15u Md15o = true := by kernel_rfl
def Md16a : List SV := [p 0 0, .agg [n 1, n 1, z, z, ff, t #[]]]
def Md16o : List (Nat × SObj) := [(0, MdS61), (1, MdS0), (2, C [ff, ff] 11), (3, C [n 1, z] 7), (4, MdS32), (5, MdS33), (6, MdS62), (7, MdS45), (8, C [z, z, z, z, z] 269), (9, M [] 3), (10, M [] 1), (11, C [z, z, z, z] 441), (12, M [] 2), (13, M [] 2), (14, C [z] 9), (15, MdS27), (16, M [] 1), (17, MdS1), (18, MdS37), (19, MdS28), (20, C [n 1, n 1] 9), (21, MdS25), (22, MdS38), (23, MdS46), (24, MdS12), (25, MdS39)]
def Md16x : SV := .tuple [e 161 0 1 8 1, z]
def Md16u : List (Nat × Option SObj) := [(0, some (MdS63)), (161, some (C [n 1, n 1014, n 1, n 1014, n 1, n 3, z, z] 213)), (4, some (MdS64)), (5, some (MdS65)), (6, some (C [n 1014, n 1015, n 2, p 15 0, .map 16, ns, ns, ns, ns, ns, ns, ns, ns, ns, ns, ns, ns, ns, ns, ns, ns, ns, ns, ns, ns, ns, ns, ns, ns, ns, ns, ns, ns, ns, ns, ns, ns, ns, ns, ns, ns, ns, ns, ns, ns, ns, ns, ns, ns, ns, ns, ns, ns, ns, ns, ns, ns, ns, ns, ns, e 66 0 1 1 1, ns, ns, ns, ns, ns, ns, ns, ns, ns, ns, ns, ns, ns, ns, ns, ns, ns, ns, ns, ns, ns, ns, ns, ns, ns, ns, ns, ns, ns, ns, ns, ns, ns, ns, ns, ns, ns, ns, ns, ns, ns, ns, ns, ns, ns, ns, ns, ns, ns, ns, ns, ns, ns, ns, ns, ns, ns, ns, ns, ns, ns, ns, ns, ns, ns, ns, ns, ns, ns, ns, ns, ns, ns, ns, ns, ns, ns, ns, ns, ns, ns, ns, ns, ns, ns, ns, ns, ns, ns, ns, ns, ns, ns, ns, ns, ns, ns, ns, ns, ns, ns, ns, ns, ns, ns, ns, ns, ns, ns, ns, ns, ns, ns, ns, ns, ns, ns, ns, ns, ns, ns, ns, ns, ns, ns, ns, ns, ns, ns, ns, ns, ns, ns, ns, ns, ns, ns, ns, ns, ns, ns, ns, ns, ns, ns, ns, ns, ns, ns, ns, ns, ns, ns, ns, ns, ns, ns, ns, ns, ns, ns, ns, ns, ns, ns, ns, ns, ns, ns, ns, ns, ns, ns, ns, ns, ns, ns, ns, ns, ns, ns, ns, ns, ns, ns, ns, ns, ns, ns, ns, ns, ns, ns, ns, ns, ns, ns, ns, ns, ns, u 36028797018963968, uz, uz, uz, ns] 396)), (7, some (MdS66)), (8, some (MdS67)), (9, some (MdS68)), (10, some (M [(n 3, n 8192, 1)] 2)), (12, some (M [] 3)), (13, some (M [] 3)), (15, some (MdS69)), (16, some (M [(n 8192, p 64 0, 1)] 2)), (66, some (C [p 64 0] 627)), (17, some (MdS8)), (18, some (MdS70)), (21, some (MdS71)), (64, some (MdS72)), (24, some (MdS73)), (25, some (MdS74))]
theorem Md16r (σ : Sig) : endOkS (env σ) (MdC σ) Tryz.f29.ntmps MdSl29 Tryz.f29.results.toList MdB29 (cutSt (Sym.frameOf Md16a MdSl29) Md16o 26) Md16x (after Md16o Md16u) 162 = true := by kernel_rfl
theorem Md16p : updOk ⟨heapOf (after Md16o Md16u), 162, 0⟩ Md16u = true := by kernel_rfl
theorem Md16k : keptOk ⟨heapOf (after Md16o Md16u), 162, 0⟩ Md16u Md16o = true := by kernel_rfl
def Md17a : List SV := [p 0 0, .agg [n 1, n 1, z, z, ff, t #[]]]
def Md17o : List (Nat × SObj) := [(0, MdS63), (1, MdS0), (2, C [ff, ff] 11), (3, C [n 1, z] 7), (4, MdS64), (5, MdS65), (6, C [n 1014, n 1015, n 2, p 15 0, .map 16, ns, ns, ns, ns, ns, ns, ns, ns, ns, ns, ns, ns, ns, ns, ns, ns, ns, ns, ns, ns, ns, ns, ns, ns, ns, ns, ns, ns, ns, ns, ns, ns, ns, ns, ns, ns, ns, ns, ns, ns, ns, ns, ns, ns, ns, ns, ns, ns, ns, ns, ns, ns, ns, ns, ns, e 17 0 1 1 1, ns, ns, ns, ns, ns, ns, ns, ns, ns, ns, ns, ns, ns, ns, ns, ns, ns, ns, ns, ns, ns, ns, ns, ns, ns, ns, ns, ns, ns, ns, ns, ns, ns, ns, ns, ns, ns, ns, ns, ns, ns, ns, ns, ns, ns, ns, ns, ns, ns, ns, ns, ns, ns, ns, ns, ns, ns, ns, ns, ns, ns, ns, ns, ns, ns, ns, ns, ns, ns, ns, ns, ns, ns, ns, ns, ns, ns, ns, ns, ns, ns, ns, ns, ns, ns, ns, ns, ns, ns, ns, ns, ns, ns, ns, ns, ns, ns, ns, ns, ns, ns, ns, ns, ns, ns, ns, ns, ns, ns, ns, ns, ns, ns, ns, ns, ns, ns, ns, ns, ns, ns, ns, ns, ns, ns, ns, ns, ns, ns, ns, ns, ns, ns, ns, ns, ns, ns, ns, ns, ns, ns, ns, ns, ns, ns, ns, ns, ns, ns, ns, ns, ns, ns, ns, ns, ns, ns, ns, ns, ns, ns, ns, ns, ns, ns, ns, ns, ns, ns, ns, ns, ns, ns, ns, ns, ns, ns, ns, ns, ns, ns, ns, ns, ns, ns, ns, ns, ns, ns, ns, ns, ns, ns, ns, ns, ns, ns, ns, ns, ns, u 36028797018963968, uz, uz, uz, ns] 396), (7, C [p 18 0, n 1, p 19 0, e 20 0 2 2 2, e 21 0 2 1 2, n 1014] 340), (8, MdS67), (9, MdS68), (10, M [(n 3, n 8192, 1)] 2), (11, C [z, z, z, z] 441), (12, M [] 3), (13, M [] 3), (14, C [z] 9), (15, MdS14), (16, M [(n 8192, p 23 0, 1)] 2), (17, C [p 23 0] 627), (18, MdS8), (19, MdS70), (20, MdS15), (21, C [n 1, n 1] 9), (22, MdS71), (23, MdS72), (24, MdS38), (25, MdS46), (26, MdS73), (27, MdS74)]
def Md17x : SV := .tuple [ns, z]
def Md17u : List (Nat × Option SObj) := [(0, some (MdS75)), (4, some (MdS76)), (5, some (MdS77)), (6, some (MdS78)), (9, some (MdS79)), (10, some (M [] 2)), (11, some (MdS80)), (12, some (MdS81)), (13, some (MdS82)), (14, some (C [n 5] 9)), (15, some (MdS24)), (16, some (M [] 2)), (22, some (MdS83)), (17, none), (23, none)]
theorem Md17r (σ : Sig) : endOkS (env σ) (MdC σ) Tryz.f29.ntmps MdSl29 Tryz.f29.results.toList MdB29 (cutSt (Sym.frameOf Md17a MdSl29) Md17o 28) Md17x (after Md17o Md17u) 124 = true := by kernel_rfl
theorem Md17p : updOk ⟨heapOf (after Md17o Md17u), 124, 0⟩ Md17u = true := by kernel_rfl
theorem Md17k : keptOk ⟨heapOf (after Md17o Md17u), 124, 0⟩ Md17u Md17o = true := by kernel_rfl
def Md18a : List SV := [p 0 0, .agg [n 1, n 1, z, z, ff, t #[]]]
def Md18o : List (Nat × SObj) := [(0, MdS75), (1, MdS0), (2, C [ff, ff] 11), (3, C [n 1, z] 7), (4, MdS76), (5, MdS77), (6, MdS78), (7, MdS66), (8, MdS67), (9, MdS79), (10, M [] 2), (11, MdS80), (12, MdS81), (13, MdS82), (14, C [n 5] 9), (15, MdS27), (16, M [] 2), (17, MdS8), (18, MdS70), (19, MdS28), (20, C [n 1, n 1] 9), (21, MdS83), (22, MdS38), (23, MdS46), (24, MdS73), (25, MdS74)]
def Md18x : SV := .tuple [ns, z]
def Md18u : List (Nat × Option SObj) := [(0, some (MdS84)), (6, some (MdS85))]
theorem Md18r (σ : Sig) : endOkS (env σ) (MdC σ) Tryz.f29.ntmps MdSl29 Tryz.f29.results.toList MdB29 (cutSt (Sym.frameOf Md18a MdSl29) Md18o 26) Md18x (after Md18o Md18u) 108 = true := by kernel_rfl
theorem Md18p : updOk ⟨heapOf (after Md18o Md18u), 108, 0⟩ Md18u = true := by kernel_rfl
theorem Md18k : keptOk ⟨heapOf (after Md18o Md18u), 108, 0⟩ Md18u Md18o = true := by kernel_rfl
def Md19a : List SV := [p 0 0, .agg [n 3, z, z, n 3, tt, t #[]]]
def Md19o : List (Nat × SObj) := [(0, MdS84), (1, MdS0), (2, C [ff, ff] 11), (3, C [n 1, z] 7), (4, MdS76), (5, MdS77), (6, MdS85), (7, MdS66), (8, MdS67), (9, MdS79), (10, M [] 2), (11, MdS80), (12, MdS81), (13, MdS82), (14, C [n 5] 9), (15, MdS27), (16, M [] 2), (17, MdS8), (18, MdS70), (19, MdS28), (20, C [n 1, n 1] 9), (21, MdS83), (22, MdS38), (23, MdS46), (24, MdS73), (25, MdS74)]
def Md19x : SV := .tuple [e 95 0 2 8 2, z]
def Md19u : List (Nat × Option SObj) := [(0, some (MdS86)), (95, some (C [n 2, n 1016, n 1, n 1014, n 1, n 3, z, z, n 1, n 1016, z, n 1014, n 1, n 4, z, z] 213)), (4, some (MdS87)), (5, some (MdS88)), (7, some (MdS89)), (8, some (MdS90)), (9, some (M [] 6)), (11, some (C [z, z, z, z] 441)), (12, some (M [] 4)), (13, some (M [] 4)), (14, some (C [z] 9)), (17, some (MdS36)), (18, some (MdS91)), (22, some (MdS92)), (23, some (MdS93)), (25, some (MdS93))]
theorem Md19r (σ : Sig) : endOkS (env σ) (MdC σ) Tryz.f29.ntmps MdSl29 Tryz.f29.results.toList MdB29 (cutSt (Sym.frameOf Md19a MdSl29) Md19o 26) Md19x (after Md19o Md19u) 96 = true := by kernel_rfl
theorem Md19p : updOk ⟨heapOf (after Md19o Md19u), 96, 0⟩ Md19u = true := by kernel_rfl
theorem Md19k : keptOk ⟨heapOf (after Md19o Md19u), 96, 0⟩ Md19u Md19o = true := by kernel_rfl
def Md20a : List SV := [p 0 0, .agg [n 1, n 1, z, z, ff, t #[]]]
def Md20o : List (Nat × SObj) := [(0, MdS86), (1, MdS0), (2, C [ff, ff] 11), (3, C [n 1, z] 7), (4, MdS87), (5, MdS88), (6, MdS85), (7, MdS89), (8, MdS90), (9, M [] 6), (10, M [] 2), (11, C [z, z, z, z] 441), (12, M [] 4), (13, M [] 4), (14, C [z] 9), (15, MdS27), (16, M [] 2), (17, MdS36), (18, MdS91), (19, MdS28), (20, C [n 1, n 1] 9), (21, MdS83), (22, MdS92), (23, MdS93), (24, MdS73), (25, MdS93)]
def Md20x : SV := .tuple [ns, z]
def Md20u : List (Nat × Option SObj) := [(0, some (MdS94)), (6, some (MdS95))]
theorem Md20r (σ : Sig) : endOkS (env σ) (MdC σ) Tryz.f29.ntmps MdSl29 Tryz.f29.results.toList MdB29 (cutSt (Sym.frameOf Md20a MdSl29) Md20o 26) Md20x (after Md20o Md20u) 89 = true := by kernel_rfl
theorem Md20p : updOk ⟨heapOf (after Md20o Md20u), 89, 0⟩ Md20u = true := by kernel_rfl
theorem Md20k : keptOk ⟨heapOf (after Md20o Md20u), 89, 0⟩ Md20u Md20o = true := by kernel_rfl
def Md21a : List SV := [p 0 0, .agg [n 1, n 1, z, z, ff, t #[]]]
def Md21o : List (Nat × SObj) := [(0, MdS94), (1, MdS0), (2, C [ff, ff] 11), (3, C [n 1, z] 7), (4, MdS87), (5, MdS88), (6, MdS95), (7, MdS89), (8, MdS90), (9, M [] 6), (10, M [] 2), (11, C [z, z, z, z] 441), (12, M [] 4), (13, M [] 4), (14, C [z] 9), (15, MdS27), (16, M [] 2), (17, MdS36), (18, MdS91), (19, MdS28), (20, C [n 1, n 1] 9), (21, MdS83), (22, MdS92), (23, MdS93), (24, MdS73), (25, MdS93)]
def Md21x : SV := .tuple [ns, z]
def Md21u : List (Nat × Option SObj) := [(0, some (MdS96)), (6, some (MdS97))]
theorem Md21r (σ : Sig) : endOkS (env σ) (MdC σ) Tryz.f29.ntmps MdSl29 Tryz.f29.results.toList MdB29 (cutSt (Sym.frameOf Md21a MdSl29) Md21o 26) Md21x (after Md21o Md21u) 89 = true := by kernel_rfl
theorem Md21p : updOk ⟨heapOf (after Md21o Md21u), 89, 0⟩ Md21u = true := by kernel_rfl
theorem Md21k : keptOk ⟨heapOf (after Md21o Md21u), 89, 0⟩ Md21u Md21o = true := by kernel_rfl
def Md22a : List SV := [p 0 0, .agg [n 3, z, z, n 4, tt, t #[]]]
def Md22o : List (Nat × SObj) := [(0, MdS96), (1, MdS0), (2, C [ff, ff] 11), (3, C [n 1, z] 7), (4, MdS87), (5, MdS88), (6, MdS97), (7, MdS89), (8, MdS90), (9, M [] 6), (10, M [] 2), (11, C [z, z, z, z] 441), (12, M [] 4), (13, M [] 4), (14, C [z] 9), (15, MdS27), (16, M [] 2), (17, MdS36), (18, MdS91), (19, MdS28), (20, C [n 1, n 1] 9), (21, MdS83), (22, MdS92), (23, MdS93), (24, MdS73), (25, MdS93)]
def Md22x : SV := .tuple [e 41 0 1 8 1, z]
def Md22u : List (Nat × Option SObj) := [(0, some (MdS98)), (41, some (C [n 2, n 1018, z, n 1014, n 1, n 4, z, z] 213)), (7, some (MdS99)), (8, some (C [z, z, z, z, z] 269)), (17, some (MdS1)), (23, some (MdS100))]
theorem Md22r (σ : Sig) : endOkS (env σ) (MdC σ) Tryz.f29.ntmps MdSl29 Tryz.f29.results.toList MdB29 (cutSt (Sym.frameOf Md22a MdSl29) Md22o 26) Md22x (after Md22o Md22u) 45 = true := by kernel_rfl
theorem Md22p : updOk ⟨heapOf (after Md22o Md22u), 45, 0⟩ Md22u = true := by kernel_rfl
theorem Md22k : keptOk ⟨heapOf (after Md22o Md22u), 45, 0⟩ Md22u Md22o = true := by kernel_rfl
def Md23a : List SV := [p 0 0, .agg [n 1, n 1, z, z, ff, t #[]]]
def Md23o : List (Nat × SObj) := [(0, MdS98), (1, MdS0), (2, C [ff, ff] 11), (3, C [n 1, z] 7), (4, MdS87), (5, MdS88), (6, MdS97), (7, MdS99), (8, C [z, z, z, z, z] 269), (9, M [] 6), (10, M [] 2), (11, C [z, z, z, z] 441), (12, M [] 4), (13, M [] 4), (14, C [z] 9), (15, MdS27), (16, M [] 2), (17, MdS1), (18, MdS91), (19, MdS28), (20, C [n 1, n 1] 9), (21, MdS83), (22, MdS92), (23, MdS100), (24, MdS73), (25, MdS93)]
def Md23x : SV := .tuple [ns, z]
def Md23u : List (Nat × Option SObj) := [(0, some (MdS101)), (6, some (MdS102))]
theorem Md23r (σ : Sig) : endOkS (env σ) (MdC σ) Tryz.f29.ntmps MdSl29 Tryz.f29.results.toList MdB29 (cutSt (Sym.frameOf Md23a MdSl29) Md23o 26) Md23x (after Md23o Md23u) 89 = true := by kernel_rfl
theorem Md23p : updOk ⟨heapOf (after Md23o Md23u), 89, 0⟩ Md23u = true := by kernel_rfl
theorem Md23k : keptOk ⟨heapOf (after Md23o Md23u), 89, 0⟩ Md23u Md23o = true := by kernel_rfl
end Go.Proofs.YthblcnkmhnpgiaaGreatDoor
