/- Several boxes of a call at once. No condition. -/
import Derived.Test.YtkgbilbicdiadaaTrack
set_option linter.unusedSimpArgs false
set_option linter.unusedVariables false
namespace Go.Proofs.Ytkgbilbicdiadaa
open Go.RowKit
theorem Bx.app {w : World} : ∀ {nb bs : List (Nat × List Value)}, Bx nb w → Bx bs w → Bx (nb ++ bs) w
  | [], _, _, h => h
  | _ :: _, _, h, k => ⟨h.1, Bx.app h.2 k⟩
theorem Tr.mores {bs : List (Nat × List Value)} {w0 w w' : World} (h : Tr bs w0 w) (hE : Ext w w') (nb : List (Nat × List Value)) (hb : Bx nb w') : Tr (nb ++ bs) w0 w' := ⟨Bx.app hb (Bx.ext hE h.1), h.2.trans hE⟩
end Go.Proofs.Ytkgbilbicdiadaa
