/- A target, a file: plain words. -/
import Derived.Lib.Strings
namespace Go.Proofs.YtcpkhaebcmgehaaGreatDoor
/-- a target -/
structure Tg where
  n : ByteArray
  c : ByteArray
  ds : List ByteArray
  ss : List ByteArray
/-- a file -/
structure Fl where
  p : ByteArray
  d : ByteArray
end Go.Proofs.YtcpkhaebcmgehaaGreatDoor
