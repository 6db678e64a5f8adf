/- Contracts and plain lemmas of our own, merged. -/
import Derived.Test.YthlnndjkocnfcaaGreatDoorZZDS1
import Derived.Test.YthlnndjkocnfcaaGreatDoorZZDS10
import Derived.Test.YthlnndjkocnfcaaGreatDoorZZDS12
import Derived.Test.YthlnndjkocnfcaaGreatDoorZZDS13
import Derived.Test.YthlnndjkocnfcaaGreatDoorZZDS21
import Derived.Test.YthlnndjkocnfcaaGreatDoorZZDS23
import Derived.Test.YthlnndjkocnfcaaGreatDoorZZDS24
import Derived.Test.YthlnndjkocnfcaaGreatDoorZZDS34
/- The reference's Better (39). -/
namespace Go.Proofs.YthlnndjkocnfcaaGreatDoor
open Go.RowKit
attribute [local go_sem] ba_get ext_take ext_drop ext_any ba_app

theorem rbetter39_any (vi vr vp : Value) (N : Nt) (a b : Ad) (w : World) (hN : NetRaw w vi vr vp N) (hlI : N.I.length ≤ 1000000) (hlR : N.R.length ≤ 1000000) (hlP : N.P.length ≤ 1000000) :
    Calls Tryz.prog 9 #[.agg #[vi, vr, vp], .agg (adA a), .agg (adA b)] w (DbPost w (dbet (dwN N a) (dwN N b))) := by
  obtain ⟨⟨x, p⟩, hx⟩ : ∃ v, pickN N a = v := ⟨_, rfl⟩
  obtain ⟨⟨y, q⟩, hy⟩ : ∃ v, pickN N b = v := ⟨_, rfl⟩
  cases p <;> cases q
  · exact rbetter39_ff vi vr vp N a b x y hx hy w hN hlI hlR hlP
  · exact rbetter39_ft vi vr vp N a b x y hx hy w hN hlI hlR hlP
  · exact rbetter39_tf vi vr vp N a b x y hx hy w hN hlI hlR hlP
  · exact rbetter39_tt vi vr vp N a b x y hx hy w hN hlI hlR hlP
end Go.Proofs.YthlnndjkocnfcaaGreatDoor
