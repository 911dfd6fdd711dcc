/- Calls, each by one run. -/
import Derived.Test.YthblcnkmhnpgiaaGreatDoorKaO
set_option linter.all false
set_option maxRecDepth 100000
namespace Go.Proofs.YthblcnkmhnpgiaaGreatDoor
open Go.RX
open Ab
def Ka80a : List SV := [p 0 0, .agg [n 1, n 1, z, z, ff, t #[]]]
def Ka80o : List (Nat × SObj) := [(0, KaS375), (1, KaS0), (2, KaS1), (3, KaS2), (4, KaS357), (5, KaS358), (6, KaS376), (7, KaS369), (8, C [z, z, z, z, z] 269), (9, M [] 27), (10, M [] 12), (11, KaS104), (12, M [] 15), (13, M [] 15), (14, C [z, z, z, z] 9), (15, KaS306), (16, M [] 12), (17, KaS3), (18, KaS361), (19, KaS47), (20, KaS5), (21, KaS305), (22, KaS350), (23, KaS362), (24, KaS285), (25, KaS318), (26, KaS319), (27, KaS334), (28, KaS335), (29, KaS351), (30, KaS363), (31, KaS370)]
def Ka80x : SV := .tuple [ns, z]
def Ka80u : List (Nat × Option SObj) := [(0, some (KaS377)), (6, some (KaS378))]
theorem Ka80r (σ : Sig) : endOkS (env σ) (KaC σ) Tryz.f29.ntmps KaSl29 Tryz.f29.results.toList KaB29 (cutSt (Sym.frameOf Ka80a KaSl29) Ka80o 32) Ka80x (after Ka80o Ka80u) 161 = true := by kernel_rfl
theorem Ka80p : updOk ⟨heapOf (after Ka80o Ka80u), 161, 0⟩ Ka80u = true := by kernel_rfl
theorem Ka80k : keptOk ⟨heapOf (after Ka80o Ka80u), 161, 0⟩ Ka80u Ka80o = true := by kernel_rfl
def Ka81a : List SV := [p 0 0, .agg [n 1, n 1, z, z, ff, t #[]]]
def Ka81o : List (Nat × SObj) := [(0, KaS377), (1, KaS0), (2, KaS1), (3, KaS2), (4, KaS357), (5, KaS358), (6, KaS378), (7, KaS369), (8, C [z, z, z, z, z] 269), (9, M [] 27), (10, M [] 12), (11, KaS104), (12, M [] 15), (13, M [] 15), (14, C [z, z, z, z] 9), (15, KaS306), (16, M [] 12), (17, KaS3), (18, KaS361), (19, KaS47), (20, KaS5), (21, KaS305), (22, KaS350), (23, KaS362), (24, KaS285), (25, KaS318), (26, KaS319), (27, KaS334), (28, KaS335), (29, KaS351), (30, KaS363), (31, KaS370)]
def Ka81x : SV := .tuple [ns, z]
def Ka81u : List (Nat × Option SObj) := [(0, some (KaS379)), (6, some (KaS380))]
theorem Ka81r (σ : Sig) : endOkS (env σ) (KaC σ) Tryz.f29.ntmps KaSl29 Tryz.f29.results.toList KaB29 (cutSt (Sym.frameOf Ka81a KaSl29) Ka81o 32) Ka81x (after Ka81o Ka81u) 161 = true := by kernel_rfl
theorem Ka81p : updOk ⟨heapOf (after Ka81o Ka81u), 161, 0⟩ Ka81u = true := by kernel_rfl
theorem Ka81k : keptOk ⟨heapOf (after Ka81o Ka81u), 161, 0⟩ Ka81u Ka81o = true := by kernel_rfl
def Ka82a : List SV := [p 0 0, .agg [n 1, n 1, z, z, ff, t #[]]]
def Ka82o : List (Nat × SObj) := [(0, KaS379), (1, KaS0), (2, KaS1), (3, KaS2), (4, KaS357), (5, KaS358), (6, KaS380), (7, KaS369), (8, C [z, z, z, z, z] 269), (9, M [] 27), (10, M [] 12), (11, KaS104), (12, M [] 15), (13, M [] 15), (14, C [z, z, z, z] 9), (15, KaS306), (16, M [] 12), (17, KaS3), (18, KaS361), (19, KaS47), (20, KaS5), (21, KaS305), (22, KaS350), (23, KaS362), (24, KaS285), (25, KaS318), (26, KaS319), (27, KaS334), (28, KaS335), (29, KaS351), (30, KaS363), (31, KaS370)]
def Ka82x : SV := .tuple [ns, z]
def Ka82u : List (Nat × Option SObj) := [(0, some (KaS381)), (6, some (KaS382))]
theorem Ka82r (σ : Sig) : endOkS (env σ) (KaC σ) Tryz.f29.ntmps KaSl29 Tryz.f29.results.toList KaB29 (cutSt (Sym.frameOf Ka82a KaSl29) Ka82o 32) Ka82x (after Ka82o Ka82u) 161 = true := by kernel_rfl
theorem Ka82p : updOk ⟨heapOf (after Ka82o Ka82u), 161, 0⟩ Ka82u = true := by kernel_rfl
theorem Ka82k : keptOk ⟨heapOf (after Ka82o Ka82u), 161, 0⟩ Ka82u Ka82o = true := by kernel_rfl
def Ka83a : List SV := [p 0 0, .agg [n 1, n 1, z, z, ff, t #[]]]
def Ka83o : List (Nat × SObj) := [(0, KaS381), (1, KaS0), (2, KaS1), (3, KaS2), (4, KaS357), (5, KaS358), (6, KaS382), (7, KaS369), (8, C [z, z, z, z, z] 269), (9, M [] 27), (10, M [] 12), (11, KaS104), (12, M [] 15), (13, M [] 15), (14, C [z, z, z, z] 9), (15, KaS306), (16, M [] 12), (17, KaS3), (18, KaS361), (19, KaS47), (20, KaS5), (21, KaS305), (22, KaS350), (23, KaS362), (24, KaS285), (25, KaS318), (26, KaS319), (27, KaS334), (28, KaS335), (29, KaS351), (30, KaS363), (31, KaS370)]
def Ka83x : SV := .tuple [ns, z]
def Ka83u : List (Nat × Option SObj) := [(0, some (KaS383)), (6, some (KaS384))]
theorem Ka83r (σ : Sig) : endOkS (env σ) (KaC σ) Tryz.f29.ntmps KaSl29 Tryz.f29.results.toList KaB29 (cutSt (Sym.frameOf Ka83a KaSl29) Ka83o 32) Ka83x (after Ka83o Ka83u) 161 = true := by kernel_rfl
theorem Ka83p : updOk ⟨heapOf (after Ka83o Ka83u), 161, 0⟩ Ka83u = true := by kernel_rfl
theorem Ka83k : keptOk ⟨heapOf (after Ka83o Ka83u), 161, 0⟩ Ka83u Ka83o = true := by kernel_rfl
def Ka84a : List SV := [p 0 0, .agg [n 1, n 1, z, z, ff, t #[]]]
def Ka84o : List (Nat × SObj) := [(0, KaS383), (1, KaS0), (2, KaS1), (3, KaS2), (4, KaS357), (5, KaS358), (6, KaS384), (7, KaS369), (8, C [z, z, z, z, z] 269), (9, M [] 27), (10, M [] 12), (11, KaS104), (12, M [] 15), (13, M [] 15), (14, C [z, z, z, z] 9), (15, KaS306), (16, M [] 12), (17, KaS3), (18, KaS361), (19, KaS47), (20, KaS5), (21, KaS305), (22, KaS350), (23, KaS362), (24, KaS285), (25, KaS318), (26, KaS319), (27, KaS334), (28, KaS335), (29, KaS351), (30, KaS363), (31, KaS370)]
def Ka84x : SV := .tuple [ns, z]
def Ka84u : List (Nat × Option SObj) := [(0, some (KaS385)), (6, some (KaS386))]
theorem Ka84r (σ : Sig) : endOkS (env σ) (KaC σ) Tryz.f29.ntmps KaSl29 Tryz.f29.results.toList KaB29 (cutSt (Sym.frameOf Ka84a KaSl29) Ka84o 32) Ka84x (after Ka84o Ka84u) 161 = true := by kernel_rfl
theorem Ka84p : updOk ⟨heapOf (after Ka84o Ka84u), 161, 0⟩ Ka84u = true := by kernel_rfl
theorem Ka84k : keptOk ⟨heapOf (after Ka84o Ka84u), 161, 0⟩ Ka84u Ka84o = true := by kernel_rfl
def Ka85a : List SV := [p 0 0, .agg [n 1, n 1, z, z, ff, t #[]]]
def Ka85o : List (Nat × SObj) := [(0, KaS385), (1, KaS0), (2, KaS1), (3, KaS2), (4, KaS357), (5, KaS358), (6, KaS386), (7, KaS369), (8, C [z, z, z, z, z] 269), (9, M [] 27), (10, M [] 12), (11, KaS104), (12, M [] 15), (13, M [] 15), (14, C [z, z, z, z] 9), (15, KaS306), (16, M [] 12), (17, KaS3), (18, KaS361), (19, KaS47), (20, KaS5), (21, KaS305), (22, KaS350), (23, KaS362), (24, KaS285), (25, KaS318), (26, KaS319), (27, KaS334), (28, KaS335), (29, KaS351), (30, KaS363), (31, KaS370)]
def Ka85x : SV := .tuple [ns, z]
def Ka85u : List (Nat × Option SObj) := [(0, some (KaS387)), (6, some (KaS388))]
theorem Ka85r (σ : Sig) : endOkS (env σ) (KaC σ) Tryz.f29.ntmps KaSl29 Tryz.f29.results.toList KaB29 (cutSt (Sym.frameOf Ka85a KaSl29) Ka85o 32) Ka85x (after Ka85o Ka85u) 161 = true := by kernel_rfl
theorem Ka85p : updOk ⟨heapOf (after Ka85o Ka85u), 161, 0⟩ Ka85u = true := by kernel_rfl
theorem Ka85k : keptOk ⟨heapOf (after Ka85o Ka85u), 161, 0⟩ Ka85u Ka85o = true := by kernel_rfl
def Ka86a : List SV := [p 0 0, .agg [n 1, n 1, z, z, ff, t #[]]]
def Ka86o : List (Nat × SObj) := [(0, KaS387), (1, KaS0), (2, KaS1), (3, KaS2), (4, KaS357), (5, KaS358), (6, KaS388), (7, KaS369), (8, C [z, z, z, z, z] 269), (9, M [] 27), (10, M [] 12), (11, KaS104), (12, M [] 15), (13, M [] 15), (14, C [z, z, z, z] 9), (15, KaS306), (16, M [] 12), (17, KaS3), (18, KaS361), (19, KaS47), (20, KaS5), (21, KaS305), (22, KaS350), (23, KaS362), (24, KaS285), (25, KaS318), (26, KaS319), (27, KaS334), (28, KaS335), (29, KaS351), (30, KaS363), (31, KaS370)]
def Ka86x : SV := .tuple [ns, z]
def Ka86u : List (Nat × Option SObj) := [(0, some (KaS389)), (6, some (KaS390))]
theorem Ka86r (σ : Sig) : endOkS (env σ) (KaC σ) Tryz.f29.ntmps KaSl29 Tryz.f29.results.toList KaB29 (cutSt (Sym.frameOf Ka86a KaSl29) Ka86o 32) Ka86x (after Ka86o Ka86u) 161 = true := by kernel_rfl
theorem Ka86p : updOk ⟨heapOf (after Ka86o Ka86u), 161, 0⟩ Ka86u = true := by kernel_rfl
theorem Ka86k : keptOk ⟨heapOf (after Ka86o Ka86u), 161, 0⟩ Ka86u Ka86o = true := by kernel_rfl
def Ka87a : List SV := [p 0 0, .agg [n 1, n 1, z, z, ff, t #[]]]
def Ka87o : List (Nat × SObj) := [(0, KaS389), (1, KaS0), (2, KaS1), (3, KaS2), (4, KaS357), (5, KaS358), (6, KaS390), (7, KaS369), (8, C [z, z, z, z, z] 269), (9, M [] 27), (10, M [] 12), (11, KaS104), (12, M [] 15), (13, M [] 15), (14, C [z, z, z, z] 9), (15, KaS306), (16, M [] 12), (17, KaS3), (18, KaS361), (19, KaS47), (20, KaS5), (21, KaS305), (22, KaS350), (23, KaS362), (24, KaS285), (25, KaS318), (26, KaS319), (27, KaS334), (28, KaS335), (29, KaS351), (30, KaS363), (31, KaS370)]
def Ka87x : SV := .tuple [ns, z]
def Ka87u : List (Nat × Option SObj) := [(0, some (KaS391)), (6, some (KaS392))]
theorem Ka87r (σ : Sig) : endOkS (env σ) (KaC σ) Tryz.f29.ntmps KaSl29 Tryz.f29.results.toList KaB29 (cutSt (Sym.frameOf Ka87a KaSl29) Ka87o 32) Ka87x (after Ka87o Ka87u) 161 = true := by kernel_rfl
theorem Ka87p : updOk ⟨heapOf (after Ka87o Ka87u), 161, 0⟩ Ka87u = true := by kernel_rfl
theorem Ka87k : keptOk ⟨heapOf (after Ka87o Ka87u), 161, 0⟩ Ka87u Ka87o = true := by kernel_rfl
def Ka88a : List SV := [p 0 0, .agg [n 1, n 1, z, z, ff, t #[]]]
def Ka88o : List (Nat × SObj) := [(0, KaS391), (1, KaS0), (2, KaS1), (3, KaS2), (4, KaS357), (5, KaS358), (6, KaS392), (7, KaS369), (8, C [z, z, z, z, z] 269), (9, M [] 27), (10, M [] 12), (11, KaS104), (12, M [] 15), (13, M [] 15), (14, C [z, z, z, z] 9), (15, KaS306), (16, M [] 12), (17, KaS3), (18, KaS361), (19, KaS47), (20, KaS5), (21, KaS305), (22, KaS350), (23, KaS362), (24, KaS285), (25, KaS318), (26, KaS319), (27, KaS334), (28, KaS335), (29, KaS351), (30, KaS363), (31, KaS370)]
def Ka88x : SV := .tuple [ns, z]
def Ka88u : List (Nat × Option SObj) := [(0, some (KaS393)), (6, some (KaS394))]
theorem Ka88r (σ : Sig) : endOkS (env σ) (KaC σ) Tryz.f29.ntmps KaSl29 Tryz.f29.results.toList KaB29 (cutSt (Sym.frameOf Ka88a KaSl29) Ka88o 32) Ka88x (after Ka88o Ka88u) 161 = true := by kernel_rfl
theorem Ka88p : updOk ⟨heapOf (after Ka88o Ka88u), 161, 0⟩ Ka88u = true := by kernel_rfl
theorem Ka88k : keptOk ⟨heapOf (after Ka88o Ka88u), 161, 0⟩ Ka88u Ka88o = true := by kernel_rfl
def Ka89a : List SV := [p 0 0, .agg [n 1, n 1, z, z, ff, t #[]]]
def Ka89o : List (Nat × SObj) := [(0, KaS393), (1, KaS0), (2, KaS1), (3, KaS2), (4, KaS357), (5, KaS358), (6, KaS394), (7, KaS369), (8, C [z, z, z, z, z] 269), (9, M [] 27), (10, M [] 12), (11, KaS104), (12, M [] 15), (13, M [] 15), (14, C [z, z, z, z] 9), (15, KaS306), (16, M [] 12), (17, KaS3), (18, KaS361), (19, KaS47), (20, KaS5), (21, KaS305), (22, KaS350), (23, KaS362), (24, KaS285), (25, KaS318), (26, KaS319), (27, KaS334), (28, KaS335), (29, KaS351), (30, KaS363), (31, KaS370)]
def Ka89x : SV := .tuple [ns, z]
def Ka89u : List (Nat × Option SObj) := [(0, some (KaS395)), (6, some (KaS396))]
theorem Ka89r (σ : Sig) : endOkS (env σ) (KaC σ) Tryz.f29.ntmps KaSl29 Tryz.f29.results.toList KaB29 (cutSt (Sym.frameOf Ka89a KaSl29) Ka89o 32) Ka89x (after Ka89o Ka89u) 161 = true := by kernel_rfl
theorem Ka89p : updOk ⟨heapOf (after Ka89o Ka89u), 161, 0⟩ Ka89u = true := by kernel_rfl
theorem Ka89k : keptOk ⟨heapOf (after Ka89o Ka89u), 161, 0⟩ Ka89u Ka89o = true := by kernel_rfl
def Ka90a : List SV := [p 0 0, .agg [n 1, n 1, z, z, ff, t #[]]]
def Ka90o : List (Nat × SObj) := [(0, KaS395), (1, KaS0), (2, KaS1), (3, KaS2), (4, KaS357), (5, KaS358), (6, KaS396), (7, KaS369), (8, C [z, z, z, z, z] 269), (9, M [] 27), (10, M [] 12), (11, KaS104), (12, M [] 15), (13, M [] 15), (14, C [z, z, z, z] 9), (15, KaS306), (16, M [] 12), (17, KaS3), (18, KaS361), (19, KaS47), (20, KaS5), (21, KaS305), (22, KaS350), (23, KaS362), (24, KaS285), (25, KaS318), (26, KaS319), (27, KaS334), (28, KaS335), (29, KaS351), (30, KaS363), (31, KaS370)]
def Ka90x : SV := .tuple [ns, z]
def Ka90u : List (Nat × Option SObj) := [(0, some (C [n 1, n 5, n 5, n 1, u 9, n 1, z, e 1 0 5 30 5, n 1075, s 2 0 5 5, e 3 0 5 1 5, p 4 0, p 5 0, p 6 0, p 7 0, e 8 0 0 5 1, n 15, n 27, .map 9, .map 10, ns] 244)), (6, some (C [n 1075, n 1076, n 12, p 15 0, .map 16, ns, ns, ns, ns, ns, ns, ns, ns, ns, ns, ns, ns, ns, ns, ns, ns, ns, ns, ns, ns, ns, ns, ns, ns, ns, ns, ns, ns, ns, ns, ns, ns, ns, ns, ns, ns, ns, ns, ns, ns, ns, ns, ns, ns, ns, ns, ns, ns, ns, ns, ns, ns, ns, ns, ns, ns, ns, ns, ns, ns, ns, ns, ns, ns, ns, ns, ns, ns, ns, ns, ns, ns, ns, ns, ns, ns, ns, ns, ns, ns, ns, ns, ns, ns, ns, ns, ns, ns, ns, ns, ns, ns, ns, ns, ns, ns, ns, ns, ns, ns, ns, ns, ns, ns, ns, ns, ns, ns, ns, ns, ns, ns, ns, ns, ns, ns, ns, ns, ns, ns, ns, ns, ns, ns, ns, ns, ns, ns, ns, ns, ns, ns, ns, ns, ns, ns, ns, ns, ns, ns, ns, ns, ns, ns, ns, ns, ns, ns, ns, ns, ns, ns, ns, ns, ns, ns, ns, ns, ns, ns, ns, ns, ns, ns, ns, ns, ns, ns, ns, ns, ns, ns, ns, ns, ns, ns, ns, ns, ns, ns, ns, ns, ns, ns, ns, ns, ns, ns, ns, ns, ns, ns, ns, ns, ns, ns, ns, ns, ns, ns, ns, ns, ns, ns, ns, ns, ns, ns, ns, ns, ns, ns, ns, ns, ns, ns, ns, ns, ns, ns, ns, ns, ns, ns, ns, ns, ns, ns, ns, ns, ns, ns, ns, ns, ns, ns, ns, ns, ns, ns, ns, ns, ns, ns, ns, ns, ns, ns, ns, ns, ns, ns, ns, ns, ns, ns, uz, uz, uz, uz, ns] 396))]
theorem Ka90r (σ : Sig) : endOkS (env σ) (KaC σ) Tryz.f29.ntmps KaSl29 Tryz.f29.results.toList KaB29 (cutSt (Sym.frameOf Ka90a KaSl29) Ka90o 32) Ka90x (after Ka90o Ka90u) 161 = true := by kernel_rfl
theorem Ka90p : updOk ⟨heapOf (after Ka90o Ka90u), 161, 0⟩ Ka90u = true := by kernel_rfl
theorem Ka90k : keptOk ⟨heapOf (after Ka90o Ka90u), 161, 0⟩ Ka90u Ka90o = true := by kernel_rfl
def Ka91a : List SV := [p 0 0, .agg [n 3, z, z, n 5, ff, t #[]]]
def Ka91o : List (Nat × SObj) := [(0, KaS9), (1, KaS0), (2, KaS1), (3, KaS2), (4, KaS10), (5, C [.map 11, ns, z] 368), (6, KaS11), (7, KaS12), (8, M [] 0), (9, M [] 0), (10, M [] 0), (11, M [] 0), (12, KaS13), (13, M [] 0), (14, KaS3), (15, KaS4), (16, KaS14), (17, KaS5), (18, KaS6), (19, KaS7), (20, KaS8), (21, KaS7), (22, KaS8), (23, KaS7), (24, KaS8), (25, KaS7), (26, KaS8), (27, KaS7), (28, KaS8)]
def Ka91x : SV := .tuple [e 37 0 1 8 1, z]
def Ka91u : List (Nat × Option SObj) := [(37, some (C [n 6, n 1000, z, z, z, z, n 5, z] 213))]
theorem Ka91r (σ : Sig) : endOkS (env σ) (KaC σ) Tryz.f29.ntmps KaSl29 Tryz.f29.results.toList KaB29 (cutSt (Sym.frameOf Ka91a KaSl29) Ka91o 29) Ka91x (after Ka91o Ka91u) 38 = true := by kernel_rfl
theorem Ka91p : updOk ⟨heapOf (after Ka91o Ka91u), 38, 0⟩ Ka91u = true := by kernel_rfl
theorem Ka91k : keptOk ⟨heapOf (after Ka91o Ka91u), 38, 0⟩ Ka91u Ka91o = true := by kernel_rfl
end Go.Proofs.YthblcnkmhnpgiaaGreatDoor
