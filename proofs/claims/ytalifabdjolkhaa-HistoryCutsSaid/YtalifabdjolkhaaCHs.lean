/- The contracts of the law HistoryCuts. -/
import Derived.Test.YtalifabdjolkhaaCHr
import Derived.Test.YtalifabdjolkhaaRunHc
namespace Go.Proofs.Ytalifabdjolkhaa.Ex
open Go

set_option maxRecDepth 100000 in
theorem smRgE (hm : Try.prog.follows .mixedOrders = true) : SmCall Try.prog 19 (fun args h => (ctS gOp fRgE args h).sel) :=
  ctS_ok hm noSm_ok (by decide) (fun ds r h => by
    unfold fRgE at h
    split at h
    · rename_i k key val hi most
      simp only [Option.some.injEq, Prod.mk.injEq] at h
      obtain ⟨-, rfl⟩ := h
      refine ⟨fun _ => none, 1000, ?_⟩
      have h2 := @goalRgE_ok
      unfold goalRgE at h2
      exact @h2 k key val hi most
    · cases h)
theorem okLGn (hm : Try.prog.follows .mixedOrders = true) : SmOK Try.prog (smL lGn) := smL_ok ⟨smRgE hm, smSame hm goalSameMod_ok, trivial⟩
theorem okLSe (hm : Try.prog.follows .mixedOrders = true) : SmOK Try.prog (smL lSe) := smL_ok ⟨smSame hm goalSameRef_ok, trivial⟩
theorem okLCl (hm : Try.prog.follows .mixedOrders = true) : SmOK Try.prog (smL lCl) := smL_ok ⟨smGn hm (okLGn hm), smCln hm, trivial⟩
theorem okLHc (hm : Try.prog.follows .mixedOrders = true) : SmOK Try.prog (smL lHc) :=
  smL_ok ⟨smSl hm, awake29 hm, smKp hm, smSe hm (okLSe hm), smGn hm (okLGn hm), smCl hm (okLCl hm), trivial⟩
end Go.Proofs.Ytalifabdjolkhaa.Ex
