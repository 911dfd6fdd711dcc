/- Calls, each by one run. -/
import Derived.Test.YthblcnkmhnpgiaaGreatDoorMdO
set_option linter.all false
set_option maxRecDepth 100000
namespace Go.Proofs.YthblcnkmhnpgiaaGreatDoor
open Go.RX
open Ab
def Md36a : List SV := [p 0 0, .agg [n 1, n 1, z, z, ff, t #[]]]
def Md36o : List (Nat × SObj) := [(0, MdS147), (1, MdS0), (2, C [ff, ff] 11), (3, C [n 1, z] 7), (4, MdS140), (5, MdS141), (6, MdS148), (7, MdS142), (8, MdS143), (9, M [] 9), (10, M [] 3), (11, C [z, z, z, z] 441), (12, M [] 6), (13, M [] 6), (14, C [z] 9), (15, MdS27), (16, M [] 3), (17, MdS36), (18, MdS144), (19, MdS28), (20, C [n 1, n 1] 9), (21, MdS136), (22, MdS145), (23, MdS146), (24, MdS126), (25, MdS146)]
def Md36x : SV := .tuple [ns, z]
def Md36u : List (Nat × Option SObj) := [(0, some (MdS149)), (6, some (MdS150))]
theorem Md36r (σ : Sig) : endOkS (env σ) (MdC σ) Tryz.f29.ntmps MdSl29 Tryz.f29.results.toList MdB29 (cutSt (Sym.frameOf Md36a MdSl29) Md36o 26) Md36x (after Md36o Md36u) 89 = true := by kernel_rfl
theorem Md36p : updOk ⟨heapOf (after Md36o Md36u), 89, 0⟩ Md36u = true := by kernel_rfl
theorem Md36k : keptOk ⟨heapOf (after Md36o Md36u), 89, 0⟩ Md36u Md36o = true := by kernel_rfl
def Md37a : List SV := [p 0 0, .agg [n 3, z, z, n 6, tt, t #[]]]
def Md37o : List (Nat × SObj) := [(0, MdS149), (1, MdS0), (2, C [ff, ff] 11), (3, C [n 1, z] 7), (4, MdS140), (5, MdS141), (6, MdS150), (7, MdS142), (8, MdS143), (9, M [] 9), (10, M [] 3), (11, C [z, z, z, z] 441), (12, M [] 6), (13, M [] 6), (14, C [z] 9), (15, MdS27), (16, M [] 3), (17, MdS36), (18, MdS144), (19, MdS28), (20, C [n 1, n 1] 9), (21, MdS136), (22, MdS145), (23, MdS146), (24, MdS126), (25, MdS146)]
def Md37x : SV := .tuple [e 41 0 1 8 1, z]
def Md37u : List (Nat × Option SObj) := [(0, some (MdS151)), (41, some (C [n 2, n 1031, z, n 1027, n 1, n 6, z, z] 213)), (7, some (MdS152)), (8, some (C [z, z, z, z, z] 269)), (17, some (MdS1)), (23, some (MdS153))]
theorem Md37r (σ : Sig) : endOkS (env σ) (MdC σ) Tryz.f29.ntmps MdSl29 Tryz.f29.results.toList MdB29 (cutSt (Sym.frameOf Md37a MdSl29) Md37o 26) Md37x (after Md37o Md37u) 45 = true := by kernel_rfl
theorem Md37p : updOk ⟨heapOf (after Md37o Md37u), 45, 0⟩ Md37u = true := by kernel_rfl
theorem Md37k : keptOk ⟨heapOf (after Md37o Md37u), 45, 0⟩ Md37u Md37o = true := by kernel_rfl
def Md38a : List SV := [p 0 0, .agg [n 1, n 1, z, z, ff, t #[]]]
def Md38o : List (Nat × SObj) := [(0, MdS151), (1, MdS0), (2, C [ff, ff] 11), (3, C [n 1, z] 7), (4, MdS140), (5, MdS141), (6, MdS150), (7, MdS152), (8, C [z, z, z, z, z] 269), (9, M [] 9), (10, M [] 3), (11, C [z, z, z, z] 441), (12, M [] 6), (13, M [] 6), (14, C [z] 9), (15, MdS27), (16, M [] 3), (17, MdS1), (18, MdS144), (19, MdS28), (20, C [n 1, n 1] 9), (21, MdS136), (22, MdS145), (23, MdS153), (24, MdS126), (25, MdS146)]
def Md38x : SV := .tuple [ns, z]
def Md38u : List (Nat × Option SObj) := [(0, some (MdS154)), (6, some (MdS155))]
theorem Md38r (σ : Sig) : endOkS (env σ) (MdC σ) Tryz.f29.ntmps MdSl29 Tryz.f29.results.toList MdB29 (cutSt (Sym.frameOf Md38a MdSl29) Md38o 26) Md38x (after Md38o Md38u) 89 = true := by kernel_rfl
theorem Md38p : updOk ⟨heapOf (after Md38o Md38u), 89, 0⟩ Md38u = true := by kernel_rfl
theorem Md38k : keptOk ⟨heapOf (after Md38o Md38u), 89, 0⟩ Md38u Md38o = true := by kernel_rfl
def Md39a : List SV := [p 0 0, .agg [n 1, n 1, z, z, ff, t #[]]]
def Md39o : List (Nat × SObj) := [(0, MdS154), (1, MdS0), (2, C [ff, ff] 11), (3, C [n 1, z] 7), (4, MdS140), (5, MdS141), (6, MdS155), (7, MdS152), (8, C [z, z, z, z, z] 269), (9, M [] 9), (10, M [] 3), (11, C [z, z, z, z] 441), (12, M [] 6), (13, M [] 6), (14, C [z] 9), (15, MdS27), (16, M [] 3), (17, MdS1), (18, MdS144), (19, MdS28), (20, C [n 1, n 1] 9), (21, MdS136), (22, MdS145), (23, MdS153), (24, MdS126), (25, MdS146)]
def Md39x : SV := .tuple [ns, z]
def Md39u : List (Nat × Option SObj) := [(0, some (MdS156)), (6, some (MdS157))]
theorem Md39r (σ : Sig) : endOkS (env σ) (MdC σ) Tryz.f29.ntmps MdSl29 Tryz.f29.results.toList MdB29 (cutSt (Sym.frameOf Md39a MdSl29) Md39o 26) Md39x (after Md39o Md39u) 89 = true := by kernel_rfl
theorem Md39p : updOk ⟨heapOf (after Md39o Md39u), 89, 0⟩ Md39u = true := by kernel_rfl
theorem Md39k : keptOk ⟨heapOf (after Md39o Md39u), 89, 0⟩ Md39u Md39o = true := by kernel_rfl
def Md40a : List SV := [p 0 0, .agg [n 1, n 1, z, z, ff, t #[]]]
def Md40o : List (Nat × SObj) := [(0, MdS156), (1, MdS0), (2, C [ff, ff] 11), (3, C [n 1, z] 7), (4, MdS140), (5, MdS141), (6, MdS157), (7, MdS152), (8, C [z, z, z, z, z] 269), (9, M [] 9), (10, M [] 3), (11, C [z, z, z, z] 441), (12, M [] 6), (13, M [] 6), (14, C [z] 9), (15, MdS27), (16, M [] 3), (17, MdS1), (18, MdS144), (19, MdS28), (20, C [n 1, n 1] 9), (21, MdS136), (22, MdS145), (23, MdS153), (24, MdS126), (25, MdS146)]
def Md40x : SV := .tuple [ns, z]
def Md40u : List (Nat × Option SObj) := [(0, some (MdS158)), (6, some (MdS159))]
theorem Md40r (σ : Sig) : endOkS (env σ) (MdC σ) Tryz.f29.ntmps MdSl29 Tryz.f29.results.toList MdB29 (cutSt (Sym.frameOf Md40a MdSl29) Md40o 26) Md40x (after Md40o Md40u) 89 = true := by kernel_rfl
theorem Md40p : updOk ⟨heapOf (after Md40o Md40u), 89, 0⟩ Md40u = true := by kernel_rfl
theorem Md40k : keptOk ⟨heapOf (after Md40o Md40u), 89, 0⟩ Md40u Md40o = true := by kernel_rfl
def Md41a : List SV := [p 0 0, .agg [n 1, n 1, z, z, ff, t #[]]]
def Md41o : List (Nat × SObj) := [(0, MdS158), (1, MdS0), (2, C [ff, ff] 11), (3, C [n 1, z] 7), (4, MdS140), (5, MdS141), (6, MdS159), (7, MdS152), (8, C [z, z, z, z, z] 269), (9, M [] 9), (10, M [] 3), (11, C [z, z, z, z] 441), (12, M [] 6), (13, M [] 6), (14, C [z] 9), (15, MdS27), (16, M [] 3), (17, MdS1), (18, MdS144), (19, MdS28), (20, C [n 1, n 1] 9), (21, MdS136), (22, MdS145), (23, MdS153), (24, MdS126), (25, MdS146)]
def Md41x : SV := .tuple [ns, z]
def Md41u : List (Nat × Option SObj) := [(0, some (MdS160)), (6, some (MdS161))]
theorem Md41r (σ : Sig) : endOkS (env σ) (MdC σ) Tryz.f29.ntmps MdSl29 Tryz.f29.results.toList MdB29 (cutSt (Sym.frameOf Md41a MdSl29) Md41o 26) Md41x (after Md41o Md41u) 89 = true := by kernel_rfl
theorem Md41p : updOk ⟨heapOf (after Md41o Md41u), 89, 0⟩ Md41u = true := by kernel_rfl
theorem Md41k : keptOk ⟨heapOf (after Md41o Md41u), 89, 0⟩ Md41u Md41o = true := by kernel_rfl
def Md42a : List SV := [p 0 0, .agg [n 1, n 1, z, z, ff, t #[]]]
def Md42o : List (Nat × SObj) := [(0, MdS160), (1, MdS0), (2, C [ff, ff] 11), (3, C [n 1, z] 7), (4, MdS140), (5, MdS141), (6, MdS161), (7, MdS152), (8, C [z, z, z, z, z] 269), (9, M [] 9), (10, M [] 3), (11, C [z, z, z, z] 441), (12, M [] 6), (13, M [] 6), (14, C [z] 9), (15, MdS27), (16, M [] 3), (17, MdS1), (18, MdS144), (19, MdS28), (20, C [n 1, n 1] 9), (21, MdS136), (22, MdS145), (23, MdS153), (24, MdS126), (25, MdS146)]
def Md42x : SV := .tuple [ns, z]
def Md42u : List (Nat × Option SObj) := [(0, some (MdS162)), (6, some (MdS163))]
theorem Md42r (σ : Sig) : endOkS (env σ) (MdC σ) Tryz.f29.ntmps MdSl29 Tryz.f29.results.toList MdB29 (cutSt (Sym.frameOf Md42a MdSl29) Md42o 26) Md42x (after Md42o Md42u) 89 = true := by kernel_rfl
theorem Md42p : updOk ⟨heapOf (after Md42o Md42u), 89, 0⟩ Md42u = true := by kernel_rfl
theorem Md42k : keptOk ⟨heapOf (after Md42o Md42u), 89, 0⟩ Md42u Md42o = true := by kernel_rfl
def Md43a : List SV := [p 0 0, .agg [n 1, n 1, z, z, ff, t #[]]]
def Md43o : List (Nat × SObj) := [(0, MdS162), (1, MdS0), (2, C [ff, ff] 11), (3, C [n 1, z] 7), (4, MdS140), (5, MdS141), (6, MdS163), (7, MdS152), (8, C [z, z, z, z, z] 269), (9, M [] 9), (10, M [] 3), (11, C [z, z, z, z] 441), (12, M [] 6), (13, M [] 6), (14, C [z] 9), (15, MdS27), (16, M [] 3), (17, MdS1), (18, MdS144), (19, MdS28), (20, C [n 1, n 1] 9), (21, MdS136), (22, MdS145), (23, MdS153), (24, MdS126), (25, MdS146)]
def Md43x : SV := .tuple [ns, z]
def Md43u : List (Nat × Option SObj) := [(0, some (MdS164)), (6, some (MdS165))]
theorem Md43r (σ : Sig) : endOkS (env σ) (MdC σ) Tryz.f29.ntmps MdSl29 Tryz.f29.results.toList MdB29 (cutSt (Sym.frameOf Md43a MdSl29) Md43o 26) Md43x (after Md43o Md43u) 89 = true := by kernel_rfl
theorem Md43p : updOk ⟨heapOf (after Md43o Md43u), 89, 0⟩ Md43u = true := by kernel_rfl
theorem Md43k : keptOk ⟨heapOf (after Md43o Md43u), 89, 0⟩ Md43u Md43o = true := by kernel_rfl
def Md44a : List SV := [p 0 0, .agg [n 1, n 1, z, z, ff, t #[]]]
def Md44o : List (Nat × SObj) := [(0, MdS164), (1, MdS0), (2, C [ff, ff] 11), (3, C [n 1, z] 7), (4, MdS140), (5, MdS141), (6, MdS165), (7, MdS152), (8, C [z, z, z, z, z] 269), (9, M [] 9), (10, M [] 3), (11, C [z, z, z, z] 441), (12, M [] 6), (13, M [] 6), (14, C [z] 9), (15, MdS27), (16, M [] 3), (17, MdS1), (18, MdS144), (19, MdS28), (20, C [n 1, n 1] 9), (21, MdS136), (22, MdS145), (23, MdS153), (24, MdS126), (25, MdS146)]
def Md44x : SV := .tuple [ns, z]
def Md44u : List (Nat × Option SObj) := [(0, some (MdS166)), (6, some (MdS167))]
theorem Md44r (σ : Sig) : endOkS (env σ) (MdC σ) Tryz.f29.ntmps MdSl29 Tryz.f29.results.toList MdB29 (cutSt (Sym.frameOf Md44a MdSl29) Md44o 26) Md44x (after Md44o Md44u) 89 = true := by kernel_rfl
theorem Md44p : updOk ⟨heapOf (after Md44o Md44u), 89, 0⟩ Md44u = true := by kernel_rfl
theorem Md44k : keptOk ⟨heapOf (after Md44o Md44u), 89, 0⟩ Md44u Md44o = true := by kernel_rfl
def Md45a : List SV := [p 0 0, .agg [n 1, n 1, z, z, ff, t #[]]]
def Md45o : List (Nat × SObj) := [(0, MdS166), (1, MdS0), (2, C [ff, ff] 11), (3, C [n 1, z] 7), (4, MdS140), (5, MdS141), (6, MdS167), (7, MdS152), (8, C [z, z, z, z, z] 269), (9, M [] 9), (10, M [] 3), (11, C [z, z, z, z] 441), (12, M [] 6), (13, M [] 6), (14, C [z] 9), (15, MdS27), (16, M [] 3), (17, MdS1), (18, MdS144), (19, MdS28), (20, C [n 1, n 1] 9), (21, MdS136), (22, MdS145), (23, MdS153), (24, MdS126), (25, MdS146)]
def Md45x : SV := .tuple [ns, z]
def Md45u : List (Nat × Option SObj) := [(0, some (C [n 1, n 2, n 2, n 1, uz, n 1, z, e 1 0 2 30 2, n 1039, s 2 0 2 2, e 3 0 2 1 2, p 4 0, p 5 0, p 6 0, p 7 0, e 8 0 0 5 1, n 6, n 9, .map 9, .map 10, ns] 244)), (6, some (C [n 1039, n 1040, n 3, p 15 0, .map 16, ns, ns, ns, ns, ns, ns, ns, ns, ns, ns, ns, ns, ns, ns, ns, ns, ns, ns, ns, ns, ns, ns, ns, ns, ns, ns, ns, ns, ns, ns, ns, ns, ns, ns, ns, ns, ns, ns, ns, ns, ns, ns, ns, ns, ns, ns, ns, ns, ns, ns, ns, ns, ns, ns, ns, ns, ns, ns, ns, ns, ns, ns, ns, ns, ns, ns, ns, ns, ns, ns, ns, ns, ns, ns, ns, ns, ns, ns, ns, ns, ns, ns, ns, ns, ns, ns, ns, ns, ns, ns, ns, ns, ns, ns, ns, ns, ns, ns, ns, ns, ns, ns, ns, ns, ns, ns, ns, ns, ns, ns, ns, ns, ns, ns, ns, ns, ns, ns, ns, ns, ns, ns, ns, ns, ns, ns, ns, ns, ns, ns, ns, ns, ns, ns, ns, ns, ns, ns, ns, ns, ns, ns, ns, ns, ns, ns, ns, ns, ns, ns, ns, ns, ns, ns, ns, ns, ns, ns, ns, ns, ns, ns, ns, ns, ns, ns, ns, ns, ns, ns, ns, ns, ns, ns, ns, ns, ns, ns, ns, ns, ns, ns, ns, ns, ns, ns, ns, ns, ns, ns, ns, ns, ns, ns, ns, ns, ns, ns, ns, ns, ns, ns, ns, ns, ns, ns, ns, ns, ns, ns, ns, ns, ns, ns, ns, ns, ns, ns, ns, ns, ns, ns, ns, ns, ns, ns, ns, ns, ns, ns, ns, ns, ns, ns, ns, ns, ns, ns, ns, ns, ns, ns, ns, ns, ns, ns, ns, ns, ns, ns, ns, ns, ns, ns, ns, ns, uz, uz, uz, uz, ns] 396))]
theorem Md45r (σ : Sig) : endOkS (env σ) (MdC σ) Tryz.f29.ntmps MdSl29 Tryz.f29.results.toList MdB29 (cutSt (Sym.frameOf Md45a MdSl29) Md45o 26) Md45x (after Md45o Md45u) 89 = true := by kernel_rfl
theorem Md45p : updOk ⟨heapOf (after Md45o Md45u), 89, 0⟩ Md45u = true := by kernel_rfl
theorem Md45k : keptOk ⟨heapOf (after Md45o Md45u), 89, 0⟩ Md45u Md45o = true := by kernel_rfl
end Go.Proofs.YthblcnkmhnpgiaaGreatDoor
