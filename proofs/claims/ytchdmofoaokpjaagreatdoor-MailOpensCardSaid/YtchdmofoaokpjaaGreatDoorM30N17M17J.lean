import Derived.Test.YtchdmofoaokpjaaGreatDoorM30N17M17H
namespace Go.Aw
open Go
open Go.Proofs.Tryz (prog)
set_option linter.all false
set_option maxHeartbeats 8000000
set_option maxRecDepth 8000
def z5l (f : Bs) : Bs -> Bs -> Bool
 | [], _ => false
 | b :: s, w => if decide ((b.toNat : Int) = 32) = true then (if decide (w = f) = true then true else z5l f s []) else z5l f s (w ++ [b])
def zfk (k : Int) : Bs :=
 if k = 1 then [115, 104, 97, 114, 100, 32, 101, 112, 111, 99, 104, 32, 110, 32, 102, 108, 97, 103] else if k = 2 then [110, 32, 99, 111, 110, 102, 115] else if k = 3 then [107, 110, 111, 119] else
 if k = 4 then [110, 32, 98, 97, 108, 108, 111, 116] else if k = 5 then [110, 32, 98, 97, 108, 108, 111, 116, 32, 118, 111, 116, 101, 115] else if k = 6 then [110, 32, 98, 97, 108, 108, 111, 116, 32, 118, 97, 108] else
 if k = 7 then [110, 32, 98, 97, 108, 108, 111, 116] else if k = 8 then [98, 97, 108, 108, 111, 116] else if k = 9 then [110, 32, 118, 97, 108] else if k = 10 then [110] else if k = 11 then [110, 32, 98, 97, 108, 108, 111, 116] else
 if k = 12 then [115, 104, 97, 114, 100, 32, 101, 112, 111, 99, 104, 32, 110, 32, 109, 32, 110, 117, 109, 32, 101, 110, 116, 114, 105, 101, 115] else if k = 13 then [115, 104, 97, 114, 100, 32, 101, 112, 111, 99, 104, 32, 110, 32, 102, 108, 97, 103] else
 if k = 14 then [115, 104, 97, 114, 100, 32, 101, 112, 111, 99, 104, 32, 110] else if k = 15 then [115, 104, 97, 114, 100, 32, 101, 112, 111, 99, 104, 32, 110, 32, 110, 111, 100, 101, 32, 105, 100, 32, 118, 97, 108] else
 if k = 16 then [115, 104, 97, 114, 100, 32, 110, 32, 105, 100, 32, 118, 97, 108] else if k = 17 then [115, 104, 97, 114, 100, 32, 116, 120, 110] else if k = 18 then [115, 104, 97, 114, 100, 32, 105, 100, 32, 99, 111, 100, 101] else
 if k = 19 then [105, 100, 32, 118, 97, 108] else if k = 20 then [116, 120, 110] else if k = 21 then [110, 32, 105, 100, 32, 118, 97, 108, 32, 110, 117, 109, 32, 99, 111, 100, 101] else []
def zen (k : Int) (f : Bs) : Bool := qop k && z5l f (zfk k ++ [32]) []
end Go.Aw
namespace Go.Aw
open Go
open Go.Proofs.Tryz (prog)
set_option linter.all false
set_option maxHeartbeats 8000000
set_option maxRecDepth 8000
end Go.Aw
