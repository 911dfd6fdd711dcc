/- slices.overlaps, which has no body: the model's own entry, at two rows in blocks of their own. -/
import Derived.Test.YtjfagagjmdddcaaGreatDoorRxIns
import Derived.Lib.Overlaps
set_option linter.all false
namespace Go.RX

theorem over_ok {P : Program} {f : FuncId} {fn : Func} {tS tR e : TypeId} {size : Nat} (hf : P.funcs[f]? = some fn) (hname : (fn.name == "runtime.NumGoroutine") = false) (hb : fn.body.isNone = true) (hn : Extern.findNext fn = none)
    (he : Extern.find fn = some (Extern.SlicesOverlaps.overlaps #[tS, tS] #[tR])) (ht : P.underlying tS = some (.slice e)) (hz : ∀ w, (Go.sizeOf e).run P w = .ok size w) : OverOk P f := by
  intro w b1 x1 n1 c1 b2 x2 n2 c2 tA tB kA kB hne hsA hsB hkB hfa hfe
  rw [run_callFunc_extern hf hname hb hn he, Lib.run_overlaps_apart w tS tR e ht size hz ⟨b1, x1, none⟩ ⟨b2, x2, none⟩ n1 c1 n2 c2 hne tA tB kA kB hsA hsB hkB hfa hfe]
  rfl
end Go.RX
