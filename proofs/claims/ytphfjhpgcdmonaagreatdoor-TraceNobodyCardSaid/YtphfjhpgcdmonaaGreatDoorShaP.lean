/- SHA-256 on lists of natural numbers: the digest of bytes, as the program reckons it; and laws on its words. No conditions but those that are named. -/
import Derived.Laws.BitsLemmas
namespace Go.Proofs.YtphfjhpgcdmonaaGreatDoor.Sha

/-- A word turned round, towards the lower bits. -/
def rotr (x n : Nat) : Nat := (x >>> n ||| x <<< (32 - n)) % 4294967296
/-- The words k0 to k63. -/
def ks : List Nat := [
  0x428a2f98, 0x71374491, 0xb5c0fbcf, 0xe9b5dba5, 0x3956c25b, 0x59f111f1, 0x923f82a4, 0xab1c5ed5,
  0xd807aa98, 0x12835b01, 0x243185be, 0x550c7dc3, 0x72be5d74, 0x80deb1fe, 0x9bdc06a7, 0xc19bf174,
  0xe49b69c1, 0xefbe4786, 0x0fc19dc6, 0x240ca1cc, 0x2de92c6f, 0x4a7484aa, 0x5cb0a9dc, 0x76f988da,
  0x983e5152, 0xa831c66d, 0xb00327c8, 0xbf597fc7, 0xc6e00bf3, 0xd5a79147, 0x06ca6351, 0x14292967,
  0x27b70a85, 0x2e1b2138, 0x4d2c6dfc, 0x53380d13, 0x650a7354, 0x766a0abb, 0x81c2c92e, 0x92722c85,
  0xa2bfe8a1, 0xa81a664b, 0xc24b8b70, 0xc76c51a3, 0xd192e819, 0xd6990624, 0xf40e3585, 0x106aa070,
  0x19a4c116, 0x1e376c08, 0x2748774c, 0x34b0bcb5, 0x391c0cb3, 0x4ed8aa4a, 0x5b9cca4f, 0x682e6ff3,
  0x748f82ee, 0x78a5636f, 0x84c87814, 0x8cc70208, 0x90befffa, 0xa4506ceb, 0xbef9a3f7, 0xc67178f2]
/-- The eight words at first. -/
def first : List Nat := [0x6a09e667, 0xbb67ae85, 0x3c6ef372, 0xa54ff53a, 0x510e527f, 0x9b05688c, 0x1f83d9ab, 0x5be0cd19]
def at_ (l : List Nat) (i : Nat) : Nat := l.getD i 0
/-- The first sixteen words of a block, so many of them set. -/
def schA (b : List Nat) : Nat → List Nat
  | 0 => List.replicate 64 0
  | k + 1 => (schA b k).set k (at_ b (4 * k) * 16777216 + at_ b (4 * k + 1) * 65536 + at_ b (4 * k + 2) * 256 + at_ b (4 * k + 3))
def low (x : Nat) : Nat := rotr x 7 ^^^ rotr x 18 ^^^ x >>> 3
def high (y : Nat) : Nat := rotr y 17 ^^^ rotr y 19 ^^^ y >>> 10
/-- One more word. -/
def schStep (w : List Nat) (i : Nat) : List Nat := w.set i ((at_ w (i - 16) + low (at_ w (i - 15)) + at_ w (i - 7) + high (at_ w (i - 2))) % 4294967296)
def schB (b : List Nat) : Nat → List Nat
  | 0 => schA b 16
  | k + 1 => schStep (schB b k) (16 + k)
def sched (b : List Nat) : List Nat := schB b 48
/-- One round of the mixing of a block. -/
def round (w : List Nat) (x : List Nat) (t : Nat) : List Nat :=
  let choice := at_ x 6 ^^^ (at_ x 4 &&& (at_ x 5 ^^^ at_ x 6))
  let major := (at_ x 0 &&& at_ x 1) ||| (at_ x 2 &&& (at_ x 0 ||| at_ x 1))
  let one := (at_ x 7 + (rotr (at_ x 4) 6 ^^^ rotr (at_ x 4) 11 ^^^ rotr (at_ x 4) 25) + choice + at_ ks t + at_ w t) % 4294967296
  let two := ((rotr (at_ x 0) 2 ^^^ rotr (at_ x 0) 13 ^^^ rotr (at_ x 0) 22) + major) % 4294967296
  [(one + two) % 4294967296, at_ x 0, at_ x 1, at_ x 2, (at_ x 3 + one) % 4294967296, at_ x 4, at_ x 5, at_ x 6]
def rounds (w : List Nat) (v : List Nat) : Nat → List Nat
  | 0 => v
  | k + 1 => round w (rounds w v k) k
def mixed (v b : List Nat) : List Nat := List.zipWith (fun x y => (x + y) % 4294967296) (rounds (sched b) v 64) v
/-- The words behind all whole blocks, so many. -/
def blocks (m : List Nat) : Nat → List Nat
  | 0 => first
  | k + 1 => mixed (blocks m k) ((m.drop (64 * k)).take 64)
/-- What stands behind the bytes: the byte 128, bytes 0, the number of bits. -/
def big (n : Nat) (bytes : Nat) : List Nat := (List.range bytes).map fun k => n / 256 ^ (bytes - 1 - k) % 256
def padded (m : List Nat) : List Nat := m ++ [128] ++ List.replicate ((119 - m.length % 64) % 64) 0 ++ big (8 * m.length) 8
def sum (m : List Nat) : List Nat := (blocks (padded m) ((padded m).length / 64)).flatMap fun w => big w 4
def hexDigit (n : Nat) : Nat := if n < 10 then 48 + n else 87 + n
def hex (m : List Nat) : List Nat := m.flatMap fun c => [hexDigit (c / 16), hexDigit (c % 16)]
end Go.Proofs.YtphfjhpgcdmonaaGreatDoor.Sha
