/- SHA-256 in plain numbers: what the program and the reference are both shown to compute. Nothing of the program. -/
namespace Go.Proofs.YtmifpokafaiebaaDoor.Sha

/-- x turned to the right by k bits, in 32 bits -/
def rot (k x : Nat) : Nat := (x * 2 ^ (32 - k) % 4294967296) ||| (x / 2 ^ k)
def ad (x y : Nat) : Nat := (x + y) % 4294967296
def sg0 (x : Nat) : Nat := rot 7 x ^^^ rot 18 x ^^^ x / 8
def sg1 (x : Nat) : Nat := rot 17 x ^^^ rot 19 x ^^^ x / 1024
def bs1 (e : Nat) : Nat := rot 6 e ^^^ rot 11 e ^^^ rot 25 e
def bs0 (a : Nat) : Nat := rot 2 a ^^^ rot 13 a ^^^ rot 22 a
def ch (e f g : Nat) : Nat := g ^^^ (e &&& (f ^^^ g))
def mj (a b c : Nat) : Nat := (a &&& b) ||| (c &&& (a ||| b))

/-- the number of four bytes -/
def word (l : List UInt8) : Nat := l.foldl (fun n c => n * 256 + c.toNat) 0

/-- the next word of the schedule -/
def wnext (l : List Nat) (t : Nat) : Nat := ad (ad (ad (l.getD (t - 16) 0) (sg0 (l.getD (t - 15) 0))) (l.getD (t - 7) 0)) (sg1 (l.getD (t - 2) 0))
def sched : Nat → List Nat → List Nat
  | 0, l => l
  | n + 1, l => sched n (l ++ [wnext l l.length])

/-- the first n words of a block -/
def words : Nat → List UInt8 → List Nat
  | 0, _ => []
  | n + 1, l => word (l.take 4) :: words n (l.drop 4)

def rnd (v : List Nat) (k w : Nat) : List Nat :=
  match v with
  | [a, b, c, d, e, f, g, h] =>
    let p := ad (ad (ad (ad h (bs1 e)) (ch e f g)) k) w
    let q := ad (bs0 a) (mj a b c)
    [ad p q, a, b, c, ad d p, e, f, g]
  | _ => v

def K : List Nat := [
  0x428a2f98, 0x71374491, 0xb5c0fbcf, 0xe9b5dba5, 0x3956c25b, 0x59f111f1, 0x923f82a4, 0xab1c5ed5,
  0xd807aa98, 0x12835b01, 0x243185be, 0x550c7dc3, 0x72be5d74, 0x80deb1fe, 0x9bdc06a7, 0xc19bf174,
  0xe49b69c1, 0xefbe4786, 0x0fc19dc6, 0x240ca1cc, 0x2de92c6f, 0x4a7484aa, 0x5cb0a9dc, 0x76f988da,
  0x983e5152, 0xa831c66d, 0xb00327c8, 0xbf597fc7, 0xc6e00bf3, 0xd5a79147, 0x06ca6351, 0x14292967,
  0x27b70a85, 0x2e1b2138, 0x4d2c6dfc, 0x53380d13, 0x650a7354, 0x766a0abb, 0x81c2c92e, 0x92722c85,
  0xa2bfe8a1, 0xa81a664b, 0xc24b8b70, 0xc76c51a3, 0xd192e819, 0xd6990624, 0xf40e3585, 0x106aa070,
  0x19a4c116, 0x1e376c08, 0x2748774c, 0x34b0bcb5, 0x391c0cb3, 0x4ed8aa4a, 0x5b9cca4f, 0x682e6ff3,
  0x748f82ee, 0x78a5636f, 0x84c87814, 0x8cc70208, 0x90befffa, 0xa4506ceb, 0xbef9a3f7, 0xc67178f2]

def S0 : List Nat := [0x6a09e667, 0xbb67ae85, 0x3c6ef372, 0xa54ff53a, 0x510e527f, 0x9b05688c, 0x1f83d9ab, 0x5be0cd19]

/-- the first n rounds -/
def rounds (W : List Nat) : Nat → List Nat → List Nat
  | 0, v => v
  | n + 1, v => rnd (rounds W n v) (K.getD n 0) (W.getD n 0)

def compress (s : List Nat) (blk : List UInt8) : List Nat :=
  List.zipWith ad s (rounds (sched 48 (words 16 blk)) 64 s)

/-- n blocks -/
def blocks : Nat → List Nat → List UInt8 → List Nat
  | 0, s, _ => s
  | n + 1, s, l => blocks n (compress s (l.take 64)) (l.drop 64)

/-- the bytes of a number, the most significant one first -/
def be : Nat → Nat → List UInt8
  | 0, _ => []
  | n + 1, x => be n (x / 256) ++ [UInt8.ofNat (x % 256)]

/-- zeros behind the 0x80 for n bytes -/
def gap (n : Nat) : Nat := if n % 64 < 56 then 55 - n % 64 else 119 - n % 64
def padded (l : List UInt8) : List UInt8 := l ++ 0x80 :: (List.replicate (gap l.length) 0 ++ be 8 (l.length * 8))

def sum (l : List UInt8) : List UInt8 := (blocks ((padded l).length / 64) S0 (padded l)).flatMap (be 4)
def tagged (tag b : List UInt8) : List UInt8 := sum (sum tag ++ b)

/-! ### bounds -/
theorem rot_lt {k x : Nat} (hx : x < 4294967296) : rot k x < 4294967296 := by
  unfold rot
  have h1 : x * 2 ^ (32 - k) % 4294967296 < 2 ^ 32 := Nat.mod_lt _ (by omega)
  have h2 : x / 2 ^ k < 2 ^ 32 := Nat.lt_of_le_of_lt (Nat.div_le_self _ _) hx
  exact Nat.or_lt_two_pow h1 h2
theorem ad_lt (x y : Nat) : ad x y < 4294967296 := Nat.mod_lt _ (by omega)
theorem xor_lt {x y : Nat} (hx : x < 4294967296) (hy : y < 4294967296) : x ^^^ y < 4294967296 := Nat.xor_lt_two_pow (n := 32) hx hy
theorem or_lt {x y : Nat} (hx : x < 4294967296) (hy : y < 4294967296) : x ||| y < 4294967296 := Nat.or_lt_two_pow (n := 32) hx hy
theorem and_lt {x y : Nat} (hy : y < 4294967296) : x &&& y < 4294967296 := Nat.and_lt_two_pow (n := 32) _ hy
theorem div_lt {x n : Nat} (hx : x < 4294967296) : x / n < 4294967296 := Nat.lt_of_le_of_lt (Nat.div_le_self _ _) hx
theorem sg0_lt {x : Nat} (h : x < 4294967296) : sg0 x < 4294967296 := xor_lt (xor_lt (rot_lt h) (rot_lt h)) (div_lt h)
theorem sg1_lt {x : Nat} (h : x < 4294967296) : sg1 x < 4294967296 := xor_lt (xor_lt (rot_lt h) (rot_lt h)) (div_lt h)
theorem bs0_lt {x : Nat} (h : x < 4294967296) : bs0 x < 4294967296 := xor_lt (xor_lt (rot_lt h) (rot_lt h)) (rot_lt h)
theorem bs1_lt {x : Nat} (h : x < 4294967296) : bs1 x < 4294967296 := xor_lt (xor_lt (rot_lt h) (rot_lt h)) (rot_lt h)
theorem ch_lt {e f g : Nat} (hf : f < 4294967296) (hg : g < 4294967296) : ch e f g < 4294967296 := xor_lt hg (and_lt (xor_lt hf hg))
theorem mj_lt {a b c : Nat} (ha : a < 4294967296) (hb : b < 4294967296) : mj a b c < 4294967296 := or_lt (and_lt hb) (and_lt (or_lt ha hb))

/-- all below 2^32 -/
def Small (l : List Nat) : Prop := ∀ x ∈ l, x < 4294967296
theorem Small.getD {l : List Nat} (h : Small l) (i : Nat) : l.getD i 0 < 4294967296 := by
  rw [List.getD_eq_getElem?_getD]
  cases e : l[i]? with
  | none => simp
  | some x => exact h x (List.mem_of_getElem? e)

theorem word_lt : ∀ l : List UInt8, l.length ≤ 4 → word l < 4294967296 := by
  intro l h
  have key : ∀ (l : List UInt8) (n k : Nat), n < 256 ^ k → l.foldl (fun n c => n * 256 + c.toNat) n < 256 ^ (k + l.length) := by
    intro l
    induction l with
    | nil => intro n k h; simpa using h
    | cons c l ih =>
      intro n k h
      have hc := c.toNat_lt
      have := ih (n * 256 + c.toNat) (k + 1) (by rw [Nat.pow_succ]; omega)
      simp only [List.foldl_cons, List.length_cons]
      rw [show k + (l.length + 1) = k + 1 + l.length by omega]; exact this
  have h1 := key l 0 0 (by simp)
  have h2 : 256 ^ (0 + l.length) ≤ 256 ^ 4 := Nat.pow_le_pow_right (by omega) (by omega)
  exact Nat.lt_of_lt_of_le h1 h2

theorem words_length : ∀ n l, (words n l).length = n
  | 0, _ => rfl
  | n + 1, l => by simp [words, words_length n]

theorem words_small : ∀ n l, Small (words n l)
  | 0, _ => fun x hx => by simp [words] at hx
  | n + 1, l => fun x hx => by
    rcases List.mem_cons.1 hx with rfl | hx
    · exact word_lt _ (List.length_take_le _ _)
    · exact words_small n _ x hx

theorem sched_length : ∀ n l, (sched n l).length = l.length + n
  | 0, _ => rfl
  | n + 1, l => by rw [sched, sched_length n]; simp; omega

theorem wnext_lt (l : List Nat) (t : Nat) : wnext l t < 4294967296 := ad_lt _ _

theorem sched_small : ∀ n l, Small l → Small (sched n l)
  | 0, _, h => h
  | n + 1, l, h => sched_small n _ fun x hx => by
    rcases List.mem_append.1 hx with hx | hx
    · exact h x hx
    · rw [List.mem_singleton.1 hx]; exact wnext_lt _ _

theorem sched_succ (n : Nat) : ∀ l, sched (n + 1) l = sched n l ++ [wnext (sched n l) (sched n l).length] := by
  induction n with
  | zero => intro l; rfl
  | succ n ih => intro l; rw [sched, ih, sched]

theorem rnd_length (v : List Nat) (k w : Nat) (h : v.length = 8) : (rnd v k w).length = 8 := by
  match v, h with
  | [a, b, c, d, e, f, g, i], _ => rfl

theorem rnd_small {v : List Nat} (h : Small v) (k w : Nat) : Small (rnd v k w) := by
  unfold rnd
  split
  · rename_i a b c d e f g i
    intro x hx
    simp only [List.mem_cons, List.not_mem_nil, or_false] at hx
    rcases hx with rfl | rfl | rfl | rfl | rfl | rfl | rfl | rfl
    · exact ad_lt _ _
    all_goals first | exact ad_lt _ _ | exact h _ (by simp)
  · exact h

theorem rounds_length (W : List Nat) : ∀ n v, v.length = 8 → (rounds W n v).length = 8
  | 0, _, h => h
  | n + 1, v, h => rnd_length _ _ _ (rounds_length W n v h)
theorem rounds_small (W : List Nat) : ∀ n v, Small v → Small (rounds W n v)
  | 0, _, h => h
  | n + 1, v, h => rnd_small (rounds_small W n v h) _ _

theorem compress_length (s : List Nat) (b : List UInt8) (h : s.length = 8) : (compress s b).length = 8 := by
  simp [compress, rounds_length _ _ _ h, h]
theorem compress_small (s : List Nat) (b : List UInt8) : Small (compress s b) := by
  intro x hx
  obtain ⟨i, hi, rfl⟩ := List.mem_iff_getElem.1 hx
  simp only [compress, List.getElem_zipWith]
  exact ad_lt _ _

theorem blocks_length : ∀ n s l, s.length = 8 → (blocks n s l).length = 8
  | 0, _, _, h => h
  | n + 1, _, _, h => blocks_length n _ _ (compress_length _ _ h)
theorem blocks_small : ∀ n s l, Small s → Small (blocks n s l)
  | 0, _, _, h => h
  | n + 1, _, _, _ => blocks_small n _ _ (compress_small _ _)

theorem be_length : ∀ n x, (be n x).length = n
  | 0, _ => rfl
  | n + 1, x => by simp [be, be_length n]

theorem K_small : Small K := by unfold Small K; decide
theorem S0_small : Small S0 := by unfold Small S0; decide

theorem flat_length (l : List Nat) : (l.flatMap (be 4)).length = 4 * l.length := by
  induction l with
  | nil => rfl
  | cons x l ih => simp [List.flatMap_cons, be_length, ih]; omega
theorem sum_length (l : List UInt8) : (sum l).length = 32 := by
  unfold sum
  rw [flat_length, blocks_length _ _ _ rfl]
theorem tagged_length (t l : List UInt8) : (tagged t l).length = 32 := sum_length _

/-! ### it is SHA-256: the example of the chapter -/
theorem sum_abc : (sum [0x61, 0x62, 0x63]).take 4 = [0xba, 0x78, 0x16, 0xbf] := by decide +kernel
theorem sum_none : (sum []).take 4 = [0xe3, 0xb0, 0xc4, 0x42] := by decide +kernel

end Go.Proofs.YtmifpokafaiebaaDoor.Sha
