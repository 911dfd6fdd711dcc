/- Calls, each by one run. -/
import Derived.Test.YthblcnkmhnpgiaaGreatDoorMdO
set_option linter.all false
set_option maxRecDepth 100000
namespace Go.Proofs.YthblcnkmhnpgiaaGreatDoor
open Go.RX
open Ab
def Md24a : List SV := [p 0 0, .agg [n 1, n 1, z, z, ff, t #[]]]
def Md24o : List (Nat × SObj) := [(0, MdS101), (1, MdS0), (2, C [ff, ff] 11), (3, C [n 1, z] 7), (4, MdS87), (5, MdS88), (6, MdS102), (7, MdS99), (8, C [z, z, z, z, z] 269), (9, M [] 6), (10, M [] 2), (11, C [z, z, z, z] 441), (12, M [] 4), (13, M [] 4), (14, C [z] 9), (15, MdS27), (16, M [] 2), (17, MdS1), (18, MdS91), (19, MdS28), (20, C [n 1, n 1] 9), (21, MdS83), (22, MdS92), (23, MdS100), (24, MdS73), (25, MdS93)]
def Md24x : SV := .tuple [ns, z]
def Md24u : List (Nat × Option SObj) := [(0, some (MdS103)), (6, some (MdS104))]
theorem Md24r (σ : Sig) : endOkS (env σ) (MdC σ) Tryz.f29.ntmps MdSl29 Tryz.f29.results.toList MdB29 (cutSt (Sym.frameOf Md24a MdSl29) Md24o 26) Md24x (after Md24o Md24u) 89 = true := by kernel_rfl
theorem Md24p : updOk ⟨heapOf (after Md24o Md24u), 89, 0⟩ Md24u = true := by kernel_rfl
theorem Md24k : keptOk ⟨heapOf (after Md24o Md24u), 89, 0⟩ Md24u Md24o = true := by kernel_rfl
def Md25a : List SV := [p 0 0, .agg [n 1, n 1, z, z, ff, t #[]]]
def Md25o : List (Nat × SObj) := [(0, MdS103), (1, MdS0), (2, C [ff, ff] 11), (3, C [n 1, z] 7), (4, MdS87), (5, MdS88), (6, MdS104), (7, MdS99), (8, C [z, z, z, z, z] 269), (9, M [] 6), (10, M [] 2), (11, C [z, z, z, z] 441), (12, M [] 4), (13, M [] 4), (14, C [z] 9), (15, MdS27), (16, M [] 2), (17, MdS1), (18, MdS91), (19, MdS28), (20, C [n 1, n 1] 9), (21, MdS83), (22, MdS92), (23, MdS100), (24, MdS73), (25, MdS93)]
def Md25x : SV := .tuple [ns, z]
def Md25u : List (Nat × Option SObj) := [(0, some (MdS105)), (6, some (MdS106))]
theorem Md25r (σ : Sig) : endOkS (env σ) (MdC σ) Tryz.f29.ntmps MdSl29 Tryz.f29.results.toList MdB29 (cutSt (Sym.frameOf Md25a MdSl29) Md25o 26) Md25x (after Md25o Md25u) 89 = true := by kernel_rfl
theorem Md25p : updOk ⟨heapOf (after Md25o Md25u), 89, 0⟩ Md25u = true := by kernel_rfl
theorem Md25k : keptOk ⟨heapOf (after Md25o Md25u), 89, 0⟩ Md25u Md25o = true := by kernel_rfl
def Md26a : List SV := [p 0 0, .agg [n 1, n 1, z, z, ff, t #[]]]
def Md26o : List (Nat × SObj) := [(0, MdS105), (1, MdS0), (2, C [ff, ff] 11), (3, C [n 1, z] 7), (4, MdS87), (5, MdS88), (6, MdS106), (7, MdS99), (8, C [z, z, z, z, z] 269), (9, M [] 6), (10, M [] 2), (11, C [z, z, z, z] 441), (12, M [] 4), (13, M [] 4), (14, C [z] 9), (15, MdS27), (16, M [] 2), (17, MdS1), (18, MdS91), (19, MdS28), (20, C [n 1, n 1] 9), (21, MdS83), (22, MdS92), (23, MdS100), (24, MdS73), (25, MdS93)]
def Md26x : SV := .tuple [ns, z]
def Md26u : List (Nat × Option SObj) := [(0, some (MdS107)), (6, some (MdS108))]
theorem Md26r (σ : Sig) : endOkS (env σ) (MdC σ) Tryz.f29.ntmps MdSl29 Tryz.f29.results.toList MdB29 (cutSt (Sym.frameOf Md26a MdSl29) Md26o 26) Md26x (after Md26o Md26u) 89 = true := by kernel_rfl
theorem Md26p : updOk ⟨heapOf (after Md26o Md26u), 89, 0⟩ Md26u = true := by kernel_rfl
theorem Md26k : keptOk ⟨heapOf (after Md26o Md26u), 89, 0⟩ Md26u Md26o = true := by kernel_rfl
def Md27a : List SV := [p 0 0, .agg [n 1, n 1, z, z, ff, t #[]]]
def Md27o : List (Nat × SObj) := [(0, MdS107), (1, MdS0), (2, C [ff, ff] 11), (3, C [n 1, z] 7), (4, MdS87), (5, MdS88), (6, MdS108), (7, MdS99), (8, C [z, z, z, z, z] 269), (9, M [] 6), (10, M [] 2), (11, C [z, z, z, z] 441), (12, M [] 4), (13, M [] 4), (14, C [z] 9), (15, MdS27), (16, M [] 2), (17, MdS1), (18, MdS91), (19, MdS28), (20, C [n 1, n 1] 9), (21, MdS83), (22, MdS92), (23, MdS100), (24, MdS73), (25, MdS93)]
def Md27x : SV := .tuple [ns, z]
def Md27u : List (Nat × Option SObj) := [(0, some (MdS109)), (6, some (MdS110))]
theorem Md27r (σ : Sig) : endOkS (env σ) (MdC σ) Tryz.f29.ntmps MdSl29 Tryz.f29.results.toList MdB29 (cutSt (Sym.frameOf Md27a MdSl29) Md27o 26) Md27x (after Md27o Md27u) 89 = true := by kernel_rfl
theorem Md27p : updOk ⟨heapOf (after Md27o Md27u), 89, 0⟩ Md27u = true := by kernel_rfl
theorem Md27k : keptOk ⟨heapOf (after Md27o Md27u), 89, 0⟩ Md27u Md27o = true := by kernel_rfl
def Md28a : List SV := [p 0 0, .agg [n 1, n 1, z, z, ff, t #[]]]
def Md28o : List (Nat × SObj) := [(0, MdS109), (1, MdS0), (2, C [ff, ff] 11), (3, C [n 1, z] 7), (4, MdS87), (5, MdS88), (6, MdS110), (7, MdS99), (8, C [z, z, z, z, z] 269), (9, M [] 6), (10, M [] 2), (11, C [z, z, z, z] 441), (12, M [] 4), (13, M [] 4), (14, C [z] 9), (15, MdS27), (16, M [] 2), (17, MdS1), (18, MdS91), (19, MdS28), (20, C [n 1, n 1] 9), (21, MdS83), (22, MdS92), (23, MdS100), (24, MdS73), (25, MdS93)]
def Md28x : SV := .tuple [ns, z]
def Md28u : List (Nat × Option SObj) := [(0, some (MdS111)), (6, some (MdS112))]
theorem Md28r (σ : Sig) : endOkS (env σ) (MdC σ) Tryz.f29.ntmps MdSl29 Tryz.f29.results.toList MdB29 (cutSt (Sym.frameOf Md28a MdSl29) Md28o 26) Md28x (after Md28o Md28u) 89 = true := by kernel_rfl
theorem Md28p : updOk ⟨heapOf (after Md28o Md28u), 89, 0⟩ Md28u = true := by kernel_rfl
theorem Md28k : keptOk ⟨heapOf (after Md28o Md28u), 89, 0⟩ Md28u Md28o = true := by kernel_rfl
def Md29a : List SV := [p 0 0, .agg [n 1, n 1, z, z, ff, t #[]]]
def Md29o : List (Nat × SObj) := [(0, MdS111), (1, MdS0), (2, C [ff, ff] 11), (3, C [n 1, z] 7), (4, MdS87), (5, MdS88), (6, MdS112), (7, MdS99), (8, C [z, z, z, z, z] 269), (9, M [] 6), (10, M [] 2), (11, C [z, z, z, z] 441), (12, M [] 4), (13, M [] 4), (14, C [z] 9), (15, MdS27), (16, M [] 2), (17, MdS1), (18, MdS91), (19, MdS28), (20, C [n 1, n 1] 9), (21, MdS83), (22, MdS92), (23, MdS100), (24, MdS73), (25, MdS93)]
def Md29x : SV := .tuple [ns, z]
def Md29u : List (Nat × Option SObj) := [(0, some (MdS113)), (6, some (MdS114))]
theorem Md29r (σ : Sig) : endOkS (env σ) (MdC σ) Tryz.f29.ntmps MdSl29 Tryz.f29.results.toList MdB29 (cutSt (Sym.frameOf Md29a MdSl29) Md29o 26) Md29x (after Md29o Md29u) 89 = true := by kernel_rfl
theorem Md29p : updOk ⟨heapOf (after Md29o Md29u), 89, 0⟩ Md29u = true := by kernel_rfl
theorem Md29k : keptOk ⟨heapOf (after Md29o Md29u), 89, 0⟩ Md29u Md29o = true := by kernel_rfl
def Md30a : List SV := [p 0 0, .agg [n 1, n 1, z, z, ff, t #[]]]
def Md30o : List (Nat × SObj) := [(0, MdS113), (1, MdS0), (2, C [ff, ff] 11), (3, C [n 1, z] 7), (4, MdS87), (5, MdS88), (6, MdS114), (7, MdS99), (8, C [z, z, z, z, z] 269), (9, M [] 6), (10, M [] 2), (11, C [z, z, z, z] 441), (12, M [] 4), (13, M [] 4), (14, C [z] 9), (15, MdS27), (16, M [] 2), (17, MdS1), (18, MdS91), (19, MdS28), (20, C [n 1, n 1] 9), (21, MdS83), (22, MdS92), (23, MdS100), (24, MdS73), (25, MdS93)]
def Md30x : SV := .tuple [ns, z]
def Md30u : List (Nat × Option SObj) := [(0, some (MdS115)), (6, some (MdS116))]
theorem Md30r (σ : Sig) : endOkS (env σ) (MdC σ) Tryz.f29.ntmps MdSl29 Tryz.f29.results.toList MdB29 (cutSt (Sym.frameOf Md30a MdSl29) Md30o 26) Md30x (after Md30o Md30u) 89 = true := by kernel_rfl
theorem Md30p : updOk ⟨heapOf (after Md30o Md30u), 89, 0⟩ Md30u = true := by kernel_rfl
theorem Md30k : keptOk ⟨heapOf (after Md30o Md30u), 89, 0⟩ Md30u Md30o = true := by kernel_rfl
def Md31a : List SV := [p 0 0, .agg [n 1, n 1, z, z, ff, t #[]]]
def Md31o : List (Nat × SObj) := [(0, MdS115), (1, MdS0), (2, C [ff, ff] 11), (3, C [n 1, z] 7), (4, MdS87), (5, MdS88), (6, MdS116), (7, MdS99), (8, C [z, z, z, z, z] 269), (9, M [] 6), (10, M [] 2), (11, C [z, z, z, z] 441), (12, M [] 4), (13, M [] 4), (14, C [z] 9), (15, MdS27), (16, M [] 2), (17, MdS1), (18, MdS91), (19, MdS28), (20, C [n 1, n 1] 9), (21, MdS83), (22, MdS92), (23, MdS100), (24, MdS73), (25, MdS93)]
def Md31x : SV := .tuple [e 161 0 1 8 1, z]
def Md31u : List (Nat × Option SObj) := [(0, some (MdS117)), (161, some (C [n 1, n 1027, n 1, n 1027, n 1, n 5, z, z] 213)), (4, some (MdS118)), (5, some (MdS119)), (6, some (C [n 1027, n 1028, n 3, p 15 0, .map 16, ns, ns, ns, ns, e 66 0 1 1 1, ns, ns, ns, ns, ns, ns, ns, ns, ns, ns, ns, ns, ns, ns, ns, ns, ns, ns, ns, ns, ns, ns, ns, ns, ns, ns, ns, ns, ns, ns, ns, ns, ns, ns, ns, ns, ns, ns, ns, ns, ns, ns, ns, ns, ns, ns, ns, ns, ns, ns, ns, ns, ns, ns, ns, ns, ns, ns, ns, ns, ns, ns, ns, ns, ns, ns, ns, ns, ns, ns, ns, ns, ns, ns, ns, ns, ns, ns, ns, ns, ns, ns, ns, ns, ns, ns, ns, ns, ns, ns, ns, ns, ns, ns, ns, ns, ns, ns, ns, ns, ns, ns, ns, ns, ns, ns, ns, ns, ns, ns, ns, ns, ns, ns, ns, ns, ns, ns, ns, ns, ns, ns, ns, ns, ns, ns, ns, ns, ns, ns, ns, ns, ns, ns, ns, ns, ns, ns, ns, ns, ns, ns, ns, ns, ns, ns, ns, ns, ns, ns, ns, ns, ns, ns, ns, ns, ns, ns, ns, ns, ns, ns, ns, ns, ns, ns, ns, ns, ns, ns, ns, ns, ns, ns, ns, ns, ns, ns, ns, ns, ns, ns, ns, ns, ns, ns, ns, ns, ns, ns, ns, ns, ns, ns, ns, ns, ns, ns, ns, ns, ns, ns, ns, ns, ns, ns, ns, ns, ns, ns, ns, ns, ns, ns, ns, ns, ns, ns, ns, ns, ns, ns, ns, ns, ns, ns, ns, ns, ns, ns, ns, ns, ns, ns, ns, ns, ns, ns, ns, ns, ns, ns, ns, ns, ns, ns, ns, ns, ns, ns, ns, u 16, uz, uz, uz, ns] 396)), (7, some (MdS120)), (8, some (MdS121)), (9, some (MdS122)), (10, some (M [(n 6, n 12288, 2)] 3)), (12, some (M [] 5)), (13, some (M [] 5)), (15, some (MdS69)), (16, some (M [(n 12288, p 64 0, 2)] 3)), (66, some (C [p 64 0] 627)), (17, some (MdS8)), (18, some (MdS123)), (21, some (MdS124)), (64, some (MdS125)), (24, some (MdS126)), (25, some (MdS127))]
theorem Md31r (σ : Sig) : endOkS (env σ) (MdC σ) Tryz.f29.ntmps MdSl29 Tryz.f29.results.toList MdB29 (cutSt (Sym.frameOf Md31a MdSl29) Md31o 26) Md31x (after Md31o Md31u) 162 = true := by kernel_rfl
theorem Md31p : updOk ⟨heapOf (after Md31o Md31u), 162, 0⟩ Md31u = true := by kernel_rfl
theorem Md31k : keptOk ⟨heapOf (after Md31o Md31u), 162, 0⟩ Md31u Md31o = true := by kernel_rfl
def Md32a : List SV := [p 0 0, .agg [n 1, n 1, z, z, ff, t #[]]]
def Md32o : List (Nat × SObj) := [(0, MdS117), (1, MdS0), (2, C [ff, ff] 11), (3, C [n 1, z] 7), (4, MdS118), (5, MdS119), (6, C [n 1027, n 1028, n 3, p 15 0, .map 16, ns, ns, ns, ns, e 17 0 1 1 1, ns, ns, ns, ns, ns, ns, ns, ns, ns, ns, ns, ns, ns, ns, ns, ns, ns, ns, ns, ns, ns, ns, ns, ns, ns, ns, ns, ns, ns, ns, ns, ns, ns, ns, ns, ns, ns, ns, ns, ns, ns, ns, ns, ns, ns, ns, ns, ns, ns, ns, ns, ns, ns, ns, ns, ns, ns, ns, ns, ns, ns, ns, ns, ns, ns, ns, ns, ns, ns, ns, ns, ns, ns, ns, ns, ns, ns, ns, ns, ns, ns, ns, ns, ns, ns, ns, ns, ns, ns, ns, ns, ns, ns, ns, ns, ns, ns, ns, ns, ns, ns, ns, ns, ns, ns, ns, ns, ns, ns, ns, ns, ns, ns, ns, ns, ns, ns, ns, ns, ns, ns, ns, ns, ns, ns, ns, ns, ns, ns, ns, ns, ns, ns, ns, ns, ns, ns, ns, ns, ns, ns, ns, ns, ns, ns, ns, ns, ns, ns, ns, ns, ns, ns, ns, ns, ns, ns, ns, ns, ns, ns, ns, ns, ns, ns, ns, ns, ns, ns, ns, ns, ns, ns, ns, ns, ns, ns, ns, ns, ns, ns, ns, ns, ns, ns, ns, ns, ns, ns, ns, ns, ns, ns, ns, ns, ns, ns, ns, ns, ns, ns, ns, ns, ns, ns, ns, ns, ns, ns, ns, ns, ns, ns, ns, ns, ns, ns, ns, ns, ns, ns, ns, ns, ns, ns, ns, ns, ns, ns, ns, ns, ns, ns, ns, ns, ns, ns, ns, ns, ns, ns, ns, ns, ns, ns, ns, ns, ns, ns, ns, ns, u 16, uz, uz, uz, ns] 396), (7, C [p 18 0, n 1, p 19 0, e 20 0 2 2 2, e 21 0 2 1 2, n 1027] 340), (8, MdS121), (9, MdS122), (10, M [(n 6, n 12288, 2)] 3), (11, C [z, z, z, z] 441), (12, M [] 5), (13, M [] 5), (14, C [z] 9), (15, MdS14), (16, M [(n 12288, p 23 0, 2)] 3), (17, C [p 23 0] 627), (18, MdS8), (19, MdS123), (20, MdS15), (21, C [n 1, n 1] 9), (22, MdS124), (23, MdS125), (24, MdS92), (25, MdS100), (26, MdS126), (27, MdS127)]
def Md32x : SV := .tuple [ns, z]
def Md32u : List (Nat × Option SObj) := [(0, some (MdS128)), (4, some (MdS129)), (5, some (MdS130)), (6, some (MdS131)), (9, some (MdS132)), (10, some (M [] 3)), (11, some (MdS133)), (12, some (MdS134)), (13, some (MdS135)), (14, some (C [n 8] 9)), (15, some (MdS24)), (16, some (M [] 3)), (22, some (MdS136)), (17, none), (23, none)]
theorem Md32r (σ : Sig) : endOkS (env σ) (MdC σ) Tryz.f29.ntmps MdSl29 Tryz.f29.results.toList MdB29 (cutSt (Sym.frameOf Md32a MdSl29) Md32o 28) Md32x (after Md32o Md32u) 124 = true := by kernel_rfl
theorem Md32p : updOk ⟨heapOf (after Md32o Md32u), 124, 0⟩ Md32u = true := by kernel_rfl
theorem Md32k : keptOk ⟨heapOf (after Md32o Md32u), 124, 0⟩ Md32u Md32o = true := by kernel_rfl
def Md33a : List SV := [p 0 0, .agg [n 1, n 1, z, z, ff, t #[]]]
def Md33o : List (Nat × SObj) := [(0, MdS128), (1, MdS0), (2, C [ff, ff] 11), (3, C [n 1, z] 7), (4, MdS129), (5, MdS130), (6, MdS131), (7, MdS120), (8, MdS121), (9, MdS132), (10, M [] 3), (11, MdS133), (12, MdS134), (13, MdS135), (14, C [n 8] 9), (15, MdS27), (16, M [] 3), (17, MdS8), (18, MdS123), (19, MdS28), (20, C [n 1, n 1] 9), (21, MdS136), (22, MdS92), (23, MdS100), (24, MdS126), (25, MdS127)]
def Md33x : SV := .tuple [ns, z]
def Md33u : List (Nat × Option SObj) := [(0, some (MdS137)), (6, some (MdS138))]
theorem Md33r (σ : Sig) : endOkS (env σ) (MdC σ) Tryz.f29.ntmps MdSl29 Tryz.f29.results.toList MdB29 (cutSt (Sym.frameOf Md33a MdSl29) Md33o 26) Md33x (after Md33o Md33u) 108 = true := by kernel_rfl
theorem Md33p : updOk ⟨heapOf (after Md33o Md33u), 108, 0⟩ Md33u = true := by kernel_rfl
theorem Md33k : keptOk ⟨heapOf (after Md33o Md33u), 108, 0⟩ Md33u Md33o = true := by kernel_rfl
def Md34a : List SV := [p 0 0, .agg [n 3, z, z, n 5, tt, t #[]]]
def Md34o : List (Nat × SObj) := [(0, MdS137), (1, MdS0), (2, C [ff, ff] 11), (3, C [n 1, z] 7), (4, MdS129), (5, MdS130), (6, MdS138), (7, MdS120), (8, MdS121), (9, MdS132), (10, M [] 3), (11, MdS133), (12, MdS134), (13, MdS135), (14, C [n 8] 9), (15, MdS27), (16, M [] 3), (17, MdS8), (18, MdS123), (19, MdS28), (20, C [n 1, n 1] 9), (21, MdS136), (22, MdS92), (23, MdS100), (24, MdS126), (25, MdS127)]
def Md34x : SV := .tuple [e 95 0 2 8 2, z]
def Md34u : List (Nat × Option SObj) := [(0, some (MdS139)), (95, some (C [n 2, n 1029, n 1, n 1027, n 1, n 5, z, z, n 1, n 1029, z, n 1027, n 1, n 6, z, z] 213)), (4, some (MdS140)), (5, some (MdS141)), (7, some (MdS142)), (8, some (MdS143)), (9, some (M [] 9)), (11, some (C [z, z, z, z] 441)), (12, some (M [] 6)), (13, some (M [] 6)), (14, some (C [z] 9)), (17, some (MdS36)), (18, some (MdS144)), (22, some (MdS145)), (23, some (MdS146)), (25, some (MdS146))]
theorem Md34r (σ : Sig) : endOkS (env σ) (MdC σ) Tryz.f29.ntmps MdSl29 Tryz.f29.results.toList MdB29 (cutSt (Sym.frameOf Md34a MdSl29) Md34o 26) Md34x (after Md34o Md34u) 96 = true := by kernel_rfl
theorem Md34p : updOk ⟨heapOf (after Md34o Md34u), 96, 0⟩ Md34u = true := by kernel_rfl
theorem Md34k : keptOk ⟨heapOf (after Md34o Md34u), 96, 0⟩ Md34u Md34o = true := by kernel_rfl
def Md35a : List SV := [p 0 0, .agg [n 1, n 1, z, z, ff, t #[]]]
def Md35o : List (Nat × SObj) := [(0, MdS139), (1, MdS0), (2, C [ff, ff] 11), (3, C [n 1, z] 7), (4, MdS140), (5, MdS141), (6, MdS138), (7, MdS142), (8, MdS143), (9, M [] 9), (10, M [] 3), (11, C [z, z, z, z] 441), (12, M [] 6), (13, M [] 6), (14, C [z] 9), (15, MdS27), (16, M [] 3), (17, MdS36), (18, MdS144), (19, MdS28), (20, C [n 1, n 1] 9), (21, MdS136), (22, MdS145), (23, MdS146), (24, MdS126), (25, MdS146)]
def Md35x : SV := .tuple [ns, z]
def Md35u : List (Nat × Option SObj) := [(0, some (MdS147)), (6, some (MdS148))]
theorem Md35r (σ : Sig) : endOkS (env σ) (MdC σ) Tryz.f29.ntmps MdSl29 Tryz.f29.results.toList MdB29 (cutSt (Sym.frameOf Md35a MdSl29) Md35o 26) Md35x (after Md35o Md35u) 89 = true := by kernel_rfl
theorem Md35p : updOk ⟨heapOf (after Md35o Md35u), 89, 0⟩ Md35u = true := by kernel_rfl
theorem Md35k : keptOk ⟨heapOf (after Md35o Md35u), 89, 0⟩ Md35u Md35o = true := by kernel_rfl
end Go.Proofs.YthblcnkmhnpgiaaGreatDoor
