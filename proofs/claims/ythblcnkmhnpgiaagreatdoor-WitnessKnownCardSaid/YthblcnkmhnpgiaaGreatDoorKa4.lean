/- Calls, each by one run. -/
import Derived.Test.YthblcnkmhnpgiaaGreatDoorKaO
set_option linter.all false
set_option maxRecDepth 100000
namespace Go.Proofs.YthblcnkmhnpgiaaGreatDoor
open Go.RX
open Ab
def Ka48a : List SV := [p 0 0, .agg [n 1, n 1, z, z, ff, t #[]]]
def Ka48o : List (Nat × SObj) := [(0, KaS244), (1, KaS0), (2, KaS1), (3, KaS2), (4, KaS230), (5, KaS231), (6, KaS245), (7, KaS242), (8, C [z, z, z, z, z] 269), (9, M [] 18), (10, M [] 8), (11, KaS104), (12, M [] 10), (13, M [] 10), (14, C [z, z, z, z] 9), (15, KaS179), (16, M [] 8), (17, KaS3), (18, KaS234), (19, KaS47), (20, KaS5), (21, KaS178), (22, KaS223), (23, KaS235), (24, KaS158), (25, KaS191), (26, KaS192), (27, KaS207), (28, KaS208), (29, KaS224), (30, KaS236), (31, KaS243)]
def Ka48x : SV := .tuple [ns, z]
def Ka48u : List (Nat × Option SObj) := [(0, some (KaS246)), (6, some (KaS247))]
theorem Ka48r (σ : Sig) : endOkS (env σ) (KaC σ) Tryz.f29.ntmps KaSl29 Tryz.f29.results.toList KaB29 (cutSt (Sym.frameOf Ka48a KaSl29) Ka48o 32) Ka48x (after Ka48o Ka48u) 161 = true := by kernel_rfl
theorem Ka48p : updOk ⟨heapOf (after Ka48o Ka48u), 161, 0⟩ Ka48u = true := by kernel_rfl
theorem Ka48k : keptOk ⟨heapOf (after Ka48o Ka48u), 161, 0⟩ Ka48u Ka48o = true := by kernel_rfl
def Ka49a : List SV := [p 0 0, .agg [n 1, n 1, z, z, ff, t #[]]]
def Ka49o : List (Nat × SObj) := [(0, KaS246), (1, KaS0), (2, KaS1), (3, KaS2), (4, KaS230), (5, KaS231), (6, KaS247), (7, KaS242), (8, C [z, z, z, z, z] 269), (9, M [] 18), (10, M [] 8), (11, KaS104), (12, M [] 10), (13, M [] 10), (14, C [z, z, z, z] 9), (15, KaS179), (16, M [] 8), (17, KaS3), (18, KaS234), (19, KaS47), (20, KaS5), (21, KaS178), (22, KaS223), (23, KaS235), (24, KaS158), (25, KaS191), (26, KaS192), (27, KaS207), (28, KaS208), (29, KaS224), (30, KaS236), (31, KaS243)]
def Ka49x : SV := .tuple [ns, z]
def Ka49u : List (Nat × Option SObj) := [(0, some (KaS248)), (6, some (KaS249))]
theorem Ka49r (σ : Sig) : endOkS (env σ) (KaC σ) Tryz.f29.ntmps KaSl29 Tryz.f29.results.toList KaB29 (cutSt (Sym.frameOf Ka49a KaSl29) Ka49o 32) Ka49x (after Ka49o Ka49u) 161 = true := by kernel_rfl
theorem Ka49p : updOk ⟨heapOf (after Ka49o Ka49u), 161, 0⟩ Ka49u = true := by kernel_rfl
theorem Ka49k : keptOk ⟨heapOf (after Ka49o Ka49u), 161, 0⟩ Ka49u Ka49o = true := by kernel_rfl
def Ka50a : List SV := [p 0 0, .agg [n 1, n 1, z, z, ff, t #[]]]
def Ka50o : List (Nat × SObj) := [(0, KaS248), (1, KaS0), (2, KaS1), (3, KaS2), (4, KaS230), (5, KaS231), (6, KaS249), (7, KaS242), (8, C [z, z, z, z, z] 269), (9, M [] 18), (10, M [] 8), (11, KaS104), (12, M [] 10), (13, M [] 10), (14, C [z, z, z, z] 9), (15, KaS179), (16, M [] 8), (17, KaS3), (18, KaS234), (19, KaS47), (20, KaS5), (21, KaS178), (22, KaS223), (23, KaS235), (24, KaS158), (25, KaS191), (26, KaS192), (27, KaS207), (28, KaS208), (29, KaS224), (30, KaS236), (31, KaS243)]
def Ka50x : SV := .tuple [ns, z]
def Ka50u : List (Nat × Option SObj) := [(0, some (KaS250)), (6, some (KaS251))]
theorem Ka50r (σ : Sig) : endOkS (env σ) (KaC σ) Tryz.f29.ntmps KaSl29 Tryz.f29.results.toList KaB29 (cutSt (Sym.frameOf Ka50a KaSl29) Ka50o 32) Ka50x (after Ka50o Ka50u) 161 = true := by kernel_rfl
theorem Ka50p : updOk ⟨heapOf (after Ka50o Ka50u), 161, 0⟩ Ka50u = true := by kernel_rfl
theorem Ka50k : keptOk ⟨heapOf (after Ka50o Ka50u), 161, 0⟩ Ka50u Ka50o = true := by kernel_rfl
def Ka51a : List SV := [p 0 0, .agg [n 1, n 1, z, z, ff, t #[]]]
def Ka51o : List (Nat × SObj) := [(0, KaS250), (1, KaS0), (2, KaS1), (3, KaS2), (4, KaS230), (5, KaS231), (6, KaS251), (7, KaS242), (8, C [z, z, z, z, z] 269), (9, M [] 18), (10, M [] 8), (11, KaS104), (12, M [] 10), (13, M [] 10), (14, C [z, z, z, z] 9), (15, KaS179), (16, M [] 8), (17, KaS3), (18, KaS234), (19, KaS47), (20, KaS5), (21, KaS178), (22, KaS223), (23, KaS235), (24, KaS158), (25, KaS191), (26, KaS192), (27, KaS207), (28, KaS208), (29, KaS224), (30, KaS236), (31, KaS243)]
def Ka51x : SV := .tuple [ns, z]
def Ka51u : List (Nat × Option SObj) := [(0, some (KaS252)), (6, some (KaS253))]
theorem Ka51r (σ : Sig) : endOkS (env σ) (KaC σ) Tryz.f29.ntmps KaSl29 Tryz.f29.results.toList KaB29 (cutSt (Sym.frameOf Ka51a KaSl29) Ka51o 32) Ka51x (after Ka51o Ka51u) 161 = true := by kernel_rfl
theorem Ka51p : updOk ⟨heapOf (after Ka51o Ka51u), 161, 0⟩ Ka51u = true := by kernel_rfl
theorem Ka51k : keptOk ⟨heapOf (after Ka51o Ka51u), 161, 0⟩ Ka51u Ka51o = true := by kernel_rfl
def Ka52a : List SV := [p 0 0, .agg [n 1, n 1, z, z, ff, t #[]]]
def Ka52o : List (Nat × SObj) := [(0, KaS252), (1, KaS0), (2, KaS1), (3, KaS2), (4, KaS230), (5, KaS231), (6, KaS253), (7, KaS242), (8, C [z, z, z, z, z] 269), (9, M [] 18), (10, M [] 8), (11, KaS104), (12, M [] 10), (13, M [] 10), (14, C [z, z, z, z] 9), (15, KaS179), (16, M [] 8), (17, KaS3), (18, KaS234), (19, KaS47), (20, KaS5), (21, KaS178), (22, KaS223), (23, KaS235), (24, KaS158), (25, KaS191), (26, KaS192), (27, KaS207), (28, KaS208), (29, KaS224), (30, KaS236), (31, KaS243)]
def Ka52x : SV := .tuple [ns, z]
def Ka52u : List (Nat × Option SObj) := [(0, some (KaS254)), (6, some (KaS255))]
theorem Ka52r (σ : Sig) : endOkS (env σ) (KaC σ) Tryz.f29.ntmps KaSl29 Tryz.f29.results.toList KaB29 (cutSt (Sym.frameOf Ka52a KaSl29) Ka52o 32) Ka52x (after Ka52o Ka52u) 161 = true := by kernel_rfl
theorem Ka52p : updOk ⟨heapOf (after Ka52o Ka52u), 161, 0⟩ Ka52u = true := by kernel_rfl
theorem Ka52k : keptOk ⟨heapOf (after Ka52o Ka52u), 161, 0⟩ Ka52u Ka52o = true := by kernel_rfl
def Ka53a : List SV := [p 0 0, .agg [n 1, n 1, z, z, ff, t #[]]]
def Ka53o : List (Nat × SObj) := [(0, KaS254), (1, KaS0), (2, KaS1), (3, KaS2), (4, KaS230), (5, KaS231), (6, KaS255), (7, KaS242), (8, C [z, z, z, z, z] 269), (9, M [] 18), (10, M [] 8), (11, KaS104), (12, M [] 10), (13, M [] 10), (14, C [z, z, z, z] 9), (15, KaS179), (16, M [] 8), (17, KaS3), (18, KaS234), (19, KaS47), (20, KaS5), (21, KaS178), (22, KaS223), (23, KaS235), (24, KaS158), (25, KaS191), (26, KaS192), (27, KaS207), (28, KaS208), (29, KaS224), (30, KaS236), (31, KaS243)]
def Ka53x : SV := .tuple [ns, z]
def Ka53u : List (Nat × Option SObj) := [(0, some (KaS256)), (6, some (KaS257))]
theorem Ka53r (σ : Sig) : endOkS (env σ) (KaC σ) Tryz.f29.ntmps KaSl29 Tryz.f29.results.toList KaB29 (cutSt (Sym.frameOf Ka53a KaSl29) Ka53o 32) Ka53x (after Ka53o Ka53u) 161 = true := by kernel_rfl
theorem Ka53p : updOk ⟨heapOf (after Ka53o Ka53u), 161, 0⟩ Ka53u = true := by kernel_rfl
theorem Ka53k : keptOk ⟨heapOf (after Ka53o Ka53u), 161, 0⟩ Ka53u Ka53o = true := by kernel_rfl
def Ka54a : List SV := [p 0 0, .agg [n 1, n 1, z, z, ff, t #[]]]
def Ka54o : List (Nat × SObj) := [(0, KaS256), (1, KaS0), (2, KaS1), (3, KaS2), (4, KaS230), (5, KaS231), (6, KaS257), (7, KaS242), (8, C [z, z, z, z, z] 269), (9, M [] 18), (10, M [] 8), (11, KaS104), (12, M [] 10), (13, M [] 10), (14, C [z, z, z, z] 9), (15, KaS179), (16, M [] 8), (17, KaS3), (18, KaS234), (19, KaS47), (20, KaS5), (21, KaS178), (22, KaS223), (23, KaS235), (24, KaS158), (25, KaS191), (26, KaS192), (27, KaS207), (28, KaS208), (29, KaS224), (30, KaS236), (31, KaS243)]
def Ka54x : SV := .tuple [ns, z]
def Ka54u : List (Nat × Option SObj) := [(0, some (KaS258)), (6, some (KaS259))]
theorem Ka54r (σ : Sig) : endOkS (env σ) (KaC σ) Tryz.f29.ntmps KaSl29 Tryz.f29.results.toList KaB29 (cutSt (Sym.frameOf Ka54a KaSl29) Ka54o 32) Ka54x (after Ka54o Ka54u) 161 = true := by kernel_rfl
theorem Ka54p : updOk ⟨heapOf (after Ka54o Ka54u), 161, 0⟩ Ka54u = true := by kernel_rfl
theorem Ka54k : keptOk ⟨heapOf (after Ka54o Ka54u), 161, 0⟩ Ka54u Ka54o = true := by kernel_rfl
def Ka55a : List SV := [p 0 0, .agg [n 1, n 1, z, z, ff, t #[]]]
def Ka55o : List (Nat × SObj) := [(0, KaS258), (1, KaS0), (2, KaS1), (3, KaS2), (4, KaS230), (5, KaS231), (6, KaS259), (7, KaS242), (8, C [z, z, z, z, z] 269), (9, M [] 18), (10, M [] 8), (11, KaS104), (12, M [] 10), (13, M [] 10), (14, C [z, z, z, z] 9), (15, KaS179), (16, M [] 8), (17, KaS3), (18, KaS234), (19, KaS47), (20, KaS5), (21, KaS178), (22, KaS223), (23, KaS235), (24, KaS158), (25, KaS191), (26, KaS192), (27, KaS207), (28, KaS208), (29, KaS224), (30, KaS236), (31, KaS243)]
def Ka55x : SV := .tuple [ns, z]
def Ka55u : List (Nat × Option SObj) := [(0, some (KaS260)), (6, some (KaS261))]
theorem Ka55r (σ : Sig) : endOkS (env σ) (KaC σ) Tryz.f29.ntmps KaSl29 Tryz.f29.results.toList KaB29 (cutSt (Sym.frameOf Ka55a KaSl29) Ka55o 32) Ka55x (after Ka55o Ka55u) 161 = true := by kernel_rfl
theorem Ka55p : updOk ⟨heapOf (after Ka55o Ka55u), 161, 0⟩ Ka55u = true := by kernel_rfl
theorem Ka55k : keptOk ⟨heapOf (after Ka55o Ka55u), 161, 0⟩ Ka55u Ka55o = true := by kernel_rfl
def Ka56a : List SV := [p 0 0, .agg [n 1, n 1, z, z, ff, t #[]]]
def Ka56o : List (Nat × SObj) := [(0, KaS260), (1, KaS0), (2, KaS1), (3, KaS2), (4, KaS230), (5, KaS231), (6, KaS261), (7, KaS242), (8, C [z, z, z, z, z] 269), (9, M [] 18), (10, M [] 8), (11, KaS104), (12, M [] 10), (13, M [] 10), (14, C [z, z, z, z] 9), (15, KaS179), (16, M [] 8), (17, KaS3), (18, KaS234), (19, KaS47), (20, KaS5), (21, KaS178), (22, KaS223), (23, KaS235), (24, KaS158), (25, KaS191), (26, KaS192), (27, KaS207), (28, KaS208), (29, KaS224), (30, KaS236), (31, KaS243)]
def Ka56x : SV := .tuple [ns, z]
def Ka56u : List (Nat × Option SObj) := [(0, some (KaS262)), (6, some (KaS263))]
theorem Ka56r (σ : Sig) : endOkS (env σ) (KaC σ) Tryz.f29.ntmps KaSl29 Tryz.f29.results.toList KaB29 (cutSt (Sym.frameOf Ka56a KaSl29) Ka56o 32) Ka56x (after Ka56o Ka56u) 161 = true := by kernel_rfl
theorem Ka56p : updOk ⟨heapOf (after Ka56o Ka56u), 161, 0⟩ Ka56u = true := by kernel_rfl
theorem Ka56k : keptOk ⟨heapOf (after Ka56o Ka56u), 161, 0⟩ Ka56u Ka56o = true := by kernel_rfl
def Ka57a : List SV := [p 0 0, .agg [n 1, n 1, z, z, ff, t #[]]]
def Ka57o : List (Nat × SObj) := [(0, KaS262), (1, KaS0), (2, KaS1), (3, KaS2), (4, KaS230), (5, KaS231), (6, KaS263), (7, KaS242), (8, C [z, z, z, z, z] 269), (9, M [] 18), (10, M [] 8), (11, KaS104), (12, M [] 10), (13, M [] 10), (14, C [z, z, z, z] 9), (15, KaS179), (16, M [] 8), (17, KaS3), (18, KaS234), (19, KaS47), (20, KaS5), (21, KaS178), (22, KaS223), (23, KaS235), (24, KaS158), (25, KaS191), (26, KaS192), (27, KaS207), (28, KaS208), (29, KaS224), (30, KaS236), (31, KaS243)]
def Ka57x : SV := .tuple [ns, z]
def Ka57u : List (Nat × Option SObj) := [(0, some (KaS264)), (6, some (KaS265))]
theorem Ka57r (σ : Sig) : endOkS (env σ) (KaC σ) Tryz.f29.ntmps KaSl29 Tryz.f29.results.toList KaB29 (cutSt (Sym.frameOf Ka57a KaSl29) Ka57o 32) Ka57x (after Ka57o Ka57u) 161 = true := by kernel_rfl
theorem Ka57p : updOk ⟨heapOf (after Ka57o Ka57u), 161, 0⟩ Ka57u = true := by kernel_rfl
theorem Ka57k : keptOk ⟨heapOf (after Ka57o Ka57u), 161, 0⟩ Ka57u Ka57o = true := by kernel_rfl
def Ka58a : List SV := [p 0 0, .agg [n 1, n 1, z, z, ff, t #[]]]
def Ka58o : List (Nat × SObj) := [(0, KaS264), (1, KaS0), (2, KaS1), (3, KaS2), (4, KaS230), (5, KaS231), (6, KaS265), (7, KaS242), (8, C [z, z, z, z, z] 269), (9, M [] 18), (10, M [] 8), (11, KaS104), (12, M [] 10), (13, M [] 10), (14, C [z, z, z, z] 9), (15, KaS179), (16, M [] 8), (17, KaS3), (18, KaS234), (19, KaS47), (20, KaS5), (21, KaS178), (22, KaS223), (23, KaS235), (24, KaS158), (25, KaS191), (26, KaS192), (27, KaS207), (28, KaS208), (29, KaS224), (30, KaS236), (31, KaS243)]
def Ka58x : SV := .tuple [ns, z]
def Ka58u : List (Nat × Option SObj) := [(0, some (KaS266)), (6, some (KaS267))]
theorem Ka58r (σ : Sig) : endOkS (env σ) (KaC σ) Tryz.f29.ntmps KaSl29 Tryz.f29.results.toList KaB29 (cutSt (Sym.frameOf Ka58a KaSl29) Ka58o 32) Ka58x (after Ka58o Ka58u) 161 = true := by kernel_rfl
theorem Ka58p : updOk ⟨heapOf (after Ka58o Ka58u), 161, 0⟩ Ka58u = true := by kernel_rfl
theorem Ka58k : keptOk ⟨heapOf (after Ka58o Ka58u), 161, 0⟩ Ka58u Ka58o = true := by kernel_rfl
def Ka59a : List SV := [p 0 0, .agg [n 1, n 1, z, z, ff, t #[]]]
def Ka59o : List (Nat × SObj) := [(0, KaS266), (1, KaS0), (2, KaS1), (3, KaS2), (4, KaS230), (5, KaS231), (6, KaS267), (7, KaS242), (8, C [z, z, z, z, z] 269), (9, M [] 18), (10, M [] 8), (11, KaS104), (12, M [] 10), (13, M [] 10), (14, C [z, z, z, z] 9), (15, KaS179), (16, M [] 8), (17, KaS3), (18, KaS234), (19, KaS47), (20, KaS5), (21, KaS178), (22, KaS223), (23, KaS235), (24, KaS158), (25, KaS191), (26, KaS192), (27, KaS207), (28, KaS208), (29, KaS224), (30, KaS236), (31, KaS243)]
def Ka59x : SV := .tuple [ns, z]
def Ka59u : List (Nat × Option SObj) := [(0, some (KaS268)), (6, some (KaS269))]
theorem Ka59r (σ : Sig) : endOkS (env σ) (KaC σ) Tryz.f29.ntmps KaSl29 Tryz.f29.results.toList KaB29 (cutSt (Sym.frameOf Ka59a KaSl29) Ka59o 32) Ka59x (after Ka59o Ka59u) 161 = true := by kernel_rfl
theorem Ka59p : updOk ⟨heapOf (after Ka59o Ka59u), 161, 0⟩ Ka59u = true := by kernel_rfl
theorem Ka59k : keptOk ⟨heapOf (after Ka59o Ka59u), 161, 0⟩ Ka59u Ka59o = true := by kernel_rfl
def Ka60a : List SV := [p 0 0, .agg [n 1, n 1, z, z, ff, t #[]]]
def Ka60o : List (Nat × SObj) := [(0, KaS268), (1, KaS0), (2, KaS1), (3, KaS2), (4, KaS230), (5, KaS231), (6, KaS269), (7, KaS242), (8, C [z, z, z, z, z] 269), (9, M [] 18), (10, M [] 8), (11, KaS104), (12, M [] 10), (13, M [] 10), (14, C [z, z, z, z] 9), (15, KaS179), (16, M [] 8), (17, KaS3), (18, KaS234), (19, KaS47), (20, KaS5), (21, KaS178), (22, KaS223), (23, KaS235), (24, KaS158), (25, KaS191), (26, KaS192), (27, KaS207), (28, KaS208), (29, KaS224), (30, KaS236), (31, KaS243)]
def Ka60x : SV := .tuple [ns, z]
def Ka60u : List (Nat × Option SObj) := [(0, some (KaS270)), (6, some (KaS271))]
theorem Ka60r (σ : Sig) : endOkS (env σ) (KaC σ) Tryz.f29.ntmps KaSl29 Tryz.f29.results.toList KaB29 (cutSt (Sym.frameOf Ka60a KaSl29) Ka60o 32) Ka60x (after Ka60o Ka60u) 161 = true := by kernel_rfl
theorem Ka60p : updOk ⟨heapOf (after Ka60o Ka60u), 161, 0⟩ Ka60u = true := by kernel_rfl
theorem Ka60k : keptOk ⟨heapOf (after Ka60o Ka60u), 161, 0⟩ Ka60u Ka60o = true := by kernel_rfl
def Ka61a : List SV := [p 0 0, .agg [n 1, n 1, z, z, ff, t #[]]]
def Ka61o : List (Nat × SObj) := [(0, KaS270), (1, KaS0), (2, KaS1), (3, KaS2), (4, KaS230), (5, KaS231), (6, KaS271), (7, KaS242), (8, C [z, z, z, z, z] 269), (9, M [] 18), (10, M [] 8), (11, KaS104), (12, M [] 10), (13, M [] 10), (14, C [z, z, z, z] 9), (15, KaS179), (16, M [] 8), (17, KaS3), (18, KaS234), (19, KaS47), (20, KaS5), (21, KaS178), (22, KaS223), (23, KaS235), (24, KaS158), (25, KaS191), (26, KaS192), (27, KaS207), (28, KaS208), (29, KaS224), (30, KaS236), (31, KaS243)]
def Ka61x : SV := .tuple [e 245 0 1 8 1, z]
def Ka61u : List (Nat × Option SObj) := [(0, some (KaS272)), (245, some (C [n 1, n 1051, n 1, n 1051, n 1, n 11, z, z] 213)), (4, some (KaS273)), (5, some (KaS274)), (6, some (C [n 1051, n 1052, n 12, p 15 0, .map 16, ns, ns, ns, ns, ns, ns, ns, ns, ns, ns, ns, ns, ns, ns, ns, ns, ns, ns, ns, ns, ns, ns, ns, ns, ns, ns, ns, ns, e 148 0 2 1 2, e 174 0 2 1 2, ns, ns, ns, ns, ns, ns, ns, ns, ns, ns, ns, ns, ns, ns, ns, ns, ns, ns, ns, ns, ns, ns, ns, ns, ns, ns, ns, ns, ns, ns, ns, ns, ns, ns, ns, ns, ns, ns, ns, ns, ns, ns, ns, ns, ns, ns, ns, ns, ns, ns, ns, ns, ns, ns, ns, ns, ns, ns, ns, ns, ns, ns, ns, ns, ns, ns, ns, ns, ns, ns, ns, ns, ns, ns, ns, ns, ns, ns, ns, ns, ns, ns, ns, ns, ns, ns, ns, ns, ns, ns, ns, ns, ns, ns, ns, ns, ns, ns, ns, ns, ns, ns, ns, ns, ns, ns, ns, ns, ns, ns, ns, ns, ns, ns, ns, ns, ns, ns, ns, ns, ns, ns, ns, ns, ns, ns, ns, ns, ns, ns, ns, ns, ns, ns, ns, ns, ns, ns, ns, ns, ns, ns, ns, ns, ns, ns, ns, ns, ns, ns, ns, ns, ns, ns, ns, ns, ns, ns, ns, ns, ns, ns, ns, ns, ns, ns, ns, ns, ns, ns, ns, ns, ns, ns, ns, ns, ns, ns, ns, ns, ns, ns, ns, ns, ns, ns, ns, ns, ns, ns, ns, ns, ns, ns, ns, ns, ns, ns, ns, ns, ns, ns, ns, ns, ns, ns, ns, ns, ns, ns, ns, ns, ns, ns, ns, ns, ns, ns, ns, ns, ns, ns, ns, ns, ns, ns, u 805306368, uz, uz, uz, ns] 396)), (7, some (KaS275)), (8, some (KaS276)), (9, some (KaS277)), (10, some (KaS278)), (12, some (M [] 11)), (13, some (M [] 11)), (15, some (KaS151)), (16, some (M [(n 12289, p 70 0, 8), (n 12291, p 120 0, 9), (n 12290, p 146 0, 10), (n 12288, p 172 0, 11)] 12)), (148, some (C [p 120 0, p 146 0] 627)), (174, some (C [p 70 0, p 172 0] 627)), (17, some (KaS18)), (18, some (KaS279)), (21, some (KaS280)), (70, some (KaS281)), (120, some (KaS282)), (146, some (KaS283)), (172, some (KaS284)), (24, some (KaS285)), (25, some (KaS286))]
theorem Ka61r (σ : Sig) : endOkS (env σ) (KaC σ) Tryz.f29.ntmps KaSl29 Tryz.f29.results.toList KaB29 (cutSt (Sym.frameOf Ka61a KaSl29) Ka61o 32) Ka61x (after Ka61o Ka61u) 246 = true := by kernel_rfl
theorem Ka61p : updOk ⟨heapOf (after Ka61o Ka61u), 246, 0⟩ Ka61u = true := by kernel_rfl
theorem Ka61k : keptOk ⟨heapOf (after Ka61o Ka61u), 246, 0⟩ Ka61u Ka61o = true := by kernel_rfl
def Ka62a : List SV := [p 0 0, .agg [n 1, n 1, z, z, ff, t #[]]]
def Ka62o : List (Nat × SObj) := [(0, KaS272), (1, KaS0), (2, KaS1), (3, KaS2), (4, KaS273), (5, KaS274), (6, C [n 1051, n 1052, n 12, p 15 0, .map 16, ns, ns, ns, ns, ns, ns, ns, ns, ns, ns, ns, ns, ns, ns, ns, ns, ns, ns, ns, ns, ns, ns, ns, ns, ns, ns, ns, ns, e 17 0 2 1 2, e 18 0 2 1 2, ns, ns, ns, ns, ns, ns, ns, ns, ns, ns, ns, ns, ns, ns, ns, ns, ns, ns, ns, ns, ns, ns, ns, ns, ns, ns, ns, ns, ns, ns, ns, ns, ns, ns, ns, ns, ns, ns, ns, ns, ns, ns, ns, ns, ns, ns, ns, ns, ns, ns, ns, ns, ns, ns, ns, ns, ns, ns, ns, ns, ns, ns, ns, ns, ns, ns, ns, ns, ns, ns, ns, ns, ns, ns, ns, ns, ns, ns, ns, ns, ns, ns, ns, ns, ns, ns, ns, ns, ns, ns, ns, ns, ns, ns, ns, ns, ns, ns, ns, ns, ns, ns, ns, ns, ns, ns, ns, ns, ns, ns, ns, ns, ns, ns, ns, ns, ns, ns, ns, ns, ns, ns, ns, ns, ns, ns, ns, ns, ns, ns, ns, ns, ns, ns, ns, ns, ns, ns, ns, ns, ns, ns, ns, ns, ns, ns, ns, ns, ns, ns, ns, ns, ns, ns, ns, ns, ns, ns, ns, ns, ns, ns, ns, ns, ns, ns, ns, ns, ns, ns, ns, ns, ns, ns, ns, ns, ns, ns, ns, ns, ns, ns, ns, ns, ns, ns, ns, ns, ns, ns, ns, ns, ns, ns, ns, ns, ns, ns, ns, ns, ns, ns, ns, ns, ns, ns, ns, ns, ns, ns, ns, ns, ns, ns, ns, ns, ns, ns, ns, ns, ns, ns, ns, ns, ns, ns, u 805306368, uz, uz, uz, ns] 396), (7, C [p 19 0, n 1, p 20 0, e 21 0 5 2 5, e 22 0 5 1 5, n 1051] 340), (8, KaS276), (9, KaS277), (10, KaS278), (11, KaS104), (12, M [] 11), (13, M [] 11), (14, C [z, z, z, z] 9), (15, KaS27), (16, M [(n 12289, p 24 0, 8), (n 12291, p 25 0, 9), (n 12290, p 26 0, 10), (n 12288, p 27 0, 11)] 12), (17, C [p 25 0, p 26 0] 627), (18, C [p 24 0, p 27 0] 627), (19, KaS18), (20, KaS279), (21, KaS28), (22, KaS5), (23, KaS280), (24, KaS281), (25, KaS282), (26, KaS283), (27, KaS284), (28, KaS223), (29, KaS235), (30, KaS285), (31, KaS286), (32, KaS192), (33, KaS207), (34, KaS208), (35, KaS224), (36, KaS236), (37, KaS243)]
def Ka62x : SV := .tuple [ns, z]
def Ka62u : List (Nat × Option SObj) := [(0, some (KaS287)), (4, some (KaS288)), (5, some (KaS289)), (6, some (C [n 1052, n 1053, n 12, p 15 0, .map 16, ns, ns, ns, ns, ns, ns, ns, ns, ns, ns, ns, ns, ns, ns, ns, ns, ns, ns, ns, ns, ns, ns, ns, ns, ns, ns, ns, ns, ns, e 18 0 2 1 2, ns, ns, ns, ns, ns, ns, ns, ns, ns, ns, ns, ns, ns, ns, ns, ns, ns, ns, ns, ns, ns, ns, ns, ns, ns, ns, ns, ns, ns, ns, ns, ns, ns, ns, ns, ns, ns, ns, ns, ns, ns, ns, ns, ns, ns, ns, ns, ns, ns, ns, ns, ns, ns, ns, ns, ns, ns, ns, ns, ns, ns, ns, ns, ns, ns, ns, ns, ns, ns, ns, ns, ns, ns, ns, ns, ns, ns, ns, ns, ns, ns, ns, ns, ns, ns, ns, ns, ns, ns, ns, ns, ns, ns, ns, ns, ns, ns, ns, ns, ns, ns, ns, ns, ns, ns, ns, ns, ns, ns, ns, ns, ns, ns, ns, ns, ns, ns, ns, ns, ns, ns, ns, ns, ns, ns, ns, ns, ns, ns, ns, ns, ns, ns, ns, ns, ns, ns, ns, ns, ns, ns, ns, ns, ns, ns, ns, ns, ns, ns, ns, ns, ns, ns, ns, ns, ns, ns, ns, ns, ns, ns, ns, ns, ns, ns, ns, ns, ns, ns, ns, ns, ns, ns, ns, ns, ns, ns, ns, ns, ns, ns, ns, ns, ns, ns, ns, ns, ns, ns, ns, ns, ns, ns, ns, ns, ns, ns, ns, ns, ns, ns, ns, ns, ns, ns, ns, ns, ns, ns, ns, ns, ns, ns, ns, ns, ns, ns, ns, ns, ns, ns, ns, ns, ns, ns, ns, u 536870912, uz, uz, uz, ns] 396)), (9, some (KaS290)), (10, some (KaS291)), (11, some (KaS292)), (12, some (KaS293)), (13, some (KaS294)), (14, some (C [n 23, n 24, z, z] 9)), (15, some (KaS35)), (16, some (M [(n 12289, p 24 0, 8), (n 12288, p 27 0, 11)] 12)), (23, some (KaS295)), (17, none), (25, none), (26, none)]
theorem Ka62r (σ : Sig) : endOkS (env σ) (KaC σ) Tryz.f29.ntmps KaSl29 Tryz.f29.results.toList KaB29 (cutSt (Sym.frameOf Ka62a KaSl29) Ka62o 38) Ka62x (after Ka62o Ka62u) 242 = true := by kernel_rfl
theorem Ka62p : updOk ⟨heapOf (after Ka62o Ka62u), 242, 0⟩ Ka62u = true := by kernel_rfl
theorem Ka62k : keptOk ⟨heapOf (after Ka62o Ka62u), 242, 0⟩ Ka62u Ka62o = true := by kernel_rfl
def Ka63a : List SV := [p 0 0, .agg [n 1, n 1, z, z, ff, t #[]]]
def Ka63o : List (Nat × SObj) := [(0, KaS287), (1, KaS0), (2, KaS1), (3, KaS2), (4, KaS288), (5, KaS289), (6, C [n 1052, n 1053, n 12, p 15 0, .map 16, ns, ns, ns, ns, ns, ns, ns, ns, ns, ns, ns, ns, ns, ns, ns, ns, ns, ns, ns, ns, ns, ns, ns, ns, ns, ns, ns, ns, ns, e 17 0 2 1 2, ns, ns, ns, ns, ns, ns, ns, ns, ns, ns, ns, ns, ns, ns, ns, ns, ns, ns, ns, ns, ns, ns, ns, ns, ns, ns, ns, ns, ns, ns, ns, ns, ns, ns, ns, ns, ns, ns, ns, ns, ns, ns, ns, ns, ns, ns, ns, ns, ns, ns, ns, ns, ns, ns, ns, ns, ns, ns, ns, ns, ns, ns, ns, ns, ns, ns, ns, ns, ns, ns, ns, ns, ns, ns, ns, ns, ns, ns, ns, ns, ns, ns, ns, ns, ns, ns, ns, ns, ns, ns, ns, ns, ns, ns, ns, ns, ns, ns, ns, ns, ns, ns, ns, ns, ns, ns, ns, ns, ns, ns, ns, ns, ns, ns, ns, ns, ns, ns, ns, ns, ns, ns, ns, ns, ns, ns, ns, ns, ns, ns, ns, ns, ns, ns, ns, ns, ns, ns, ns, ns, ns, ns, ns, ns, ns, ns, ns, ns, ns, ns, ns, ns, ns, ns, ns, ns, ns, ns, ns, ns, ns, ns, ns, ns, ns, ns, ns, ns, ns, ns, ns, ns, ns, ns, ns, ns, ns, ns, ns, ns, ns, ns, ns, ns, ns, ns, ns, ns, ns, ns, ns, ns, ns, ns, ns, ns, ns, ns, ns, ns, ns, ns, ns, ns, ns, ns, ns, ns, ns, ns, ns, ns, ns, ns, ns, ns, ns, ns, ns, ns, ns, ns, ns, ns, ns, ns, u 536870912, uz, uz, uz, ns] 396), (7, C [p 18 0, n 1, p 19 0, e 20 0 5 2 5, e 21 0 5 1 5, n 1051] 340), (8, KaS276), (9, KaS290), (10, KaS291), (11, KaS292), (12, KaS293), (13, KaS294), (14, C [n 23, n 24, z, z] 9), (15, KaS37), (16, M [(n 12289, p 23 0, 8), (n 12288, p 24 0, 11)] 12), (17, C [p 23 0, p 24 0] 627), (18, KaS18), (19, KaS279), (20, KaS38), (21, KaS5), (22, KaS295), (23, KaS281), (24, KaS284), (25, KaS223), (26, KaS235), (27, KaS285), (28, KaS286), (29, KaS192), (30, KaS207), (31, KaS208), (32, KaS224), (33, KaS236), (34, KaS243)]
def Ka63x : SV := .tuple [ns, z]
def Ka63u : List (Nat × Option SObj) := [(0, some (KaS296)), (4, some (KaS297)), (5, some (KaS298)), (6, some (KaS299)), (9, some (KaS300)), (10, some (M [] 12)), (11, some (KaS301)), (12, some (KaS302)), (13, some (KaS303)), (14, some (KaS304)), (15, some (C [tt, s 22 0 5 5, z, n 4, z, z] 558)), (16, some (M [] 12)), (22, some (KaS305)), (17, none), (23, none), (24, none)]
theorem Ka63r (σ : Sig) : endOkS (env σ) (KaC σ) Tryz.f29.ntmps KaSl29 Tryz.f29.results.toList KaB29 (cutSt (Sym.frameOf Ka63a KaSl29) Ka63o 35) Ka63x (after Ka63o Ka63u) 289 = true := by kernel_rfl
theorem Ka63p : updOk ⟨heapOf (after Ka63o Ka63u), 289, 0⟩ Ka63u = true := by kernel_rfl
theorem Ka63k : keptOk ⟨heapOf (after Ka63o Ka63u), 289, 0⟩ Ka63u Ka63o = true := by kernel_rfl
end Go.Proofs.YthblcnkmhnpgiaaGreatDoor
