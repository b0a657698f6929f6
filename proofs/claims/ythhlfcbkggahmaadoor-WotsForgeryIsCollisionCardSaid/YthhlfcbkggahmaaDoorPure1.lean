/- SHA-256 as plain functions on lists and 32-bit words: the padding, the schedule, the compression function, the sum and the tagged, paired and chained hashes built from it. No conditions: plain definitions and laws about them, without any program. -/
namespace Go.Proofs.YthhlfcbkggahmaaDoor

abbrev W32 := BitVec 32

/-- The bytes of a 32-bit word, most significant first. -/
def wordBytes (x : W32) : List UInt8 := [UInt8.ofNat (x.toNat / 16777216), UInt8.ofNat (x.toNat / 65536), UInt8.ofNat (x.toNat / 256), UInt8.ofNat x.toNat]

/-- The big-endian word of four bytes. -/
def wordOf (a b c d : UInt8) : W32 := BitVec.ofNat 32 (((a.toNat * 256 + b.toNat) * 256 + c.toNat) * 256 + d.toNat)

/-- Word number i of a block. -/
def wordAt (l : List UInt8) (i : Nat) : W32 := wordOf (l.getD (4 * i) 0) (l.getD (4 * i + 1) 0) (l.getD (4 * i + 2) 0) (l.getD (4 * i + 3) 0)

def rorW (x : W32) (n : Nat) : W32 := (x >>> n) ||| (x <<< (32 - n))
def sg0 (x : W32) : W32 := rorW x 7 ^^^ rorW x 18 ^^^ (x >>> 3)
def sg1 (x : W32) : W32 := rorW x 17 ^^^ rorW x 19 ^^^ (x >>> 10)
def Sg0 (x : W32) : W32 := rorW x 2 ^^^ rorW x 13 ^^^ rorW x 22
def Sg1 (x : W32) : W32 := rorW x 6 ^^^ rorW x 11 ^^^ rorW x 25
def chW (x y z : W32) : W32 := (x &&& y) ^^^ (~~~x &&& z)
def majW (x y z : W32) : W32 := (x &&& y) ^^^ (x &&& z) ^^^ (y &&& z)

/-- The constants of the compression function. -/
def kNats : List Nat := [1116352408, 1899447441, 3049323471, 3921009573, 961987163, 1508970993, 2453635748, 2870763221, 3624381080, 310598401, 607225278, 1426881987, 1925078388, 2162078206, 2614888103, 3248222580, 3835390401, 4022224774, 264347078, 604807628, 770255983, 1249150122, 1555081692, 1996064986, 2554220882, 2821834349, 2952996808, 3210313671, 3336571891, 3584528711, 113926993, 338241895, 666307205, 773529912, 1294757372, 1396182291, 1695183700, 1986661051, 2177026350, 2456956037, 2730485921, 2820302411, 3259730800, 3345764771, 3516065817, 3600352804, 4094571909, 275423344, 430227734, 506948616, 659060556, 883997877, 958139571, 1322822218, 1537002063, 1747873779, 1955562222, 2024104815, 2227730452, 2361852424, 2428436474, 2756734187, 3204031479, 3329325298]
def kW (t : Nat) : W32 := BitVec.ofNat 32 (kNats.getD t 0)

/-- The chaining state. -/
structure St where
  a : W32
  b : W32
  c : W32
  d : W32
  e : W32
  f : W32
  g : W32
  h : W32

def St.list (s : St) : List W32 := [s.a, s.b, s.c, s.d, s.e, s.f, s.g, s.h]
def St.init : St := ⟨1779033703#32, 3144134277#32, 1013904242#32, 2773480762#32, 1359893119#32, 2600822924#32, 528734635#32, 1541459225#32⟩

/-- The next word of the schedule. -/
def wNext (l : List W32) (t : Nat) : W32 := l.getD (t - 16) 0 + l.getD (t - 7) 0 + sg0 (l.getD (t - 15) 0) + sg1 (l.getD (t - 2) 0)
/-- The first t words of the schedule. -/
def wSched (blk : List UInt8) : Nat → List W32
  | 0 => []
  | t + 1 => let l := wSched blk t; l ++ [if t < 16 then wordAt blk t else wNext l t]

def rnd (s : St) (k w : W32) : St :=
  let t1 := s.h + Sg1 s.e + chW s.e s.f s.g + k + w
  let t2 := Sg0 s.a + majW s.a s.b s.c
  ⟨t1 + t2, s.a, s.b, s.c, s.d + t1, s.e, s.f, s.g⟩
/-- The state of the working variables behind t rounds. -/
def rnds (w : List W32) (s : St) : Nat → St
  | 0 => s
  | t + 1 => rnd (rnds w s t) (kW t) (w.getD t 0)
def St.add (s v : St) : St := ⟨s.a + v.a, s.b + v.b, s.c + v.c, s.d + v.d, s.e + v.e, s.f + v.f, s.g + v.g, s.h + v.h⟩
/-- The compression function. -/
def compress (s : St) (blk : List UInt8) : St := s.add (rnds (wSched blk 64) s 64)

/-- n blocks of a message, one behind the other. -/
def blocks : Nat → St → List UInt8 → St
  | 0, s, _ => s
  | n + 1, s, b => blocks n (compress s (b.take 64)) (b.drop 64)

def digestOf (s : St) : List UInt8 := s.list.flatMap wordBytes

/-- The eight bytes of the length in bits. -/
def lenBytes (n : Nat) : List UInt8 := (List.range 8).map fun i => UInt8.ofNat (n * 8 % 18446744073709551616 / 2 ^ (56 - 8 * i))
def padZeros (n : Nat) : Nat := (119 - n % 64) % 64
def padding (n : Nat) : List UInt8 := [128] ++ List.replicate (padZeros n) 0 ++ lenBytes n
def padded (b : List UInt8) : List UInt8 := b ++ padding b.length
def sumOf (b : List UInt8) : List UInt8 := digestOf (blocks ((padded b).length / 64) St.init (padded b))
def taggedOf (tag b : List UInt8) : List UInt8 := let t := tag.take 255; sumOf ([UInt8.ofNat t.length] ++ t ++ b)
def pairOf (a b : List UInt8) : List UInt8 := taggedOf [112, 97, 105, 114] (a ++ b)
def chainOf (x : List UInt8) : Nat → List UInt8
  | 0 => x
  | n + 1 => taggedOf [115, 116, 101, 112] (chainOf x n)

theorem ch_alt (e f g : W32) : g ^^^ (e &&& (f ^^^ g)) = chW e f g := by
  unfold chW
  apply BitVec.eq_of_getLsbD_eq
  intro i hi
  simp only [BitVec.getLsbD_xor, BitVec.getLsbD_and, BitVec.getLsbD_not, hi, decide_true, Bool.true_and]
  cases e.getLsbD i <;> cases f.getLsbD i <;> cases g.getLsbD i <;> rfl
theorem maj_alt (a b c : W32) : (a &&& b) ||| (c &&& (a ||| b)) = majW a b c := by
  unfold majW
  apply BitVec.eq_of_getLsbD_eq
  intro i _
  simp only [BitVec.getLsbD_xor, BitVec.getLsbD_and, BitVec.getLsbD_or]
  cases a.getLsbD i <;> cases b.getLsbD i <;> cases c.getLsbD i <;> rfl
end Go.Proofs.YthhlfcbkggahmaaDoor
