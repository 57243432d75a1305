/- A text, as its bytes. Conditions: none. -/
import Derived.Test.YtckcdbkggaoomaaDoorPush
namespace Go.Proofs.YtckcdbkggaoomaaDoor
abbrev Txt := List UInt8
end Go.Proofs.YtckcdbkggaoomaaDoor
