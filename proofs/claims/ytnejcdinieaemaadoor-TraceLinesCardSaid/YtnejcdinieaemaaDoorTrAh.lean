import Derived.Test.YtnejcdinieaemaaDoorTrAg
import Derived.Lib.LaidTab
import Derived.LaidSub
import Derived.MakeChecks
set_option linter.all false
set_option maxRecDepth 100000
/- What a row tells of the powers' table, as the machine wants it. -/
namespace Go.Proofs.YtnejcdinieaemaaDoor.Tr
open Go.Abs
theorem lies_of {W : World} (h : Lib.TabIs Tryd.prog W "internal/strconv.uint64pow10" .u64 Lib.pow10Tab) : ∀ x ∈ amb Tryd.prog, Lies W x.1 x.2 := by
  intro x hx
  obtain rfl := List.mem_singleton.1 hx
  unfold Lib.TabIs World.var? at h
  rw [gTab] at h
  simp only [Option.bind_some] at h
  unfold Lies
  generalize he : W.heap[0]? = ob at h ⊢
  match ob, h with
  | some (.cells cs t fz), h =>
    refine ⟨t, fz, ?_⟩
    have : cs = _ := Option.some.inj h
    rw [this, Lib.pow10Tab, List.map_map]; rfl
theorem tab_laid {W : World} {l : List (String × DataW Unit)} (h : laidMetH Tryd.prog l W) (k : String × DataW Unit → Bool) (hk : l.filter k = [("internal/strconv.uint64pow10", Lib.tabData .u64 Lib.pow10Tab)]) : ∀ x ∈ amb Tryd.prog, Lies W x.1 x.2 := by
  have h2 := h.filter k
  rw [hk] at h2
  have h3 : laidMet Tryd.prog [("internal/strconv.uint64pow10", Lib.tabData .u64 Lib.pow10Tab)] W := (laidMetH_iff.1 h2).1
  exact lies_of (Lib.tabIs_of_head (g := 0) (t := 128) (e := 67) (n := 20) gTab (by kernel_rfl) (by kernel_rfl) (by kernel_rfl) (by kernel_rfl) (by kernel_rfl) h3)
end Go.Proofs.YtnejcdinieaemaaDoor.Tr
