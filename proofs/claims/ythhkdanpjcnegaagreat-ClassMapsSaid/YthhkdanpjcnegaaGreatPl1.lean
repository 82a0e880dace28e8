/- Plain laws of numbers as bytes: no program in sight. -/
import Derived.IntWalk
namespace Go.Proofs.YthhkdanpjcnegaaGreat

def zig (n : Int) : Nat := if n < 0 then (-2 * n - 1).toNat else (2 * n).toNat
def putF : Nat → Nat → List UInt8
  | 0, _ => []
  | k + 1, u => if 127 < u then UInt8.ofNat (u % 128 + 128) :: putF k (u / 128) else [UInt8.ofNat u]
/-- A number's bytes. -/
def put (n : Int) : List UInt8 := putF 10 (zig n)

theorem zig_lt {n : Int} (h1 : -9223372036854775808 ≤ n) (h2 : n ≤ 9223372036854775807) : zig n < 18446744073709551616 := by
  unfold zig; split <;> omega

theorem putF_length (k u : Nat) : (putF k u).length ≤ k := by
  induction k generalizing u with
  | zero => simp [putF]
  | succ k ih => simp only [putF]; split <;> simp; exact ih _

theorem put_length (n : Int) : (put n).length ≤ 10 := putF_length _ _

theorem wrap_u64 (n : Int) : IntKind.u64.wrap n = n % 18446744073709551616 := by
  simp [IntKind.wrap, IntKind.bits, IntKind.signed]
theorem wrap_u8 (n : Int) : IntKind.u8.wrap n = n % 256 := by
  simp [IntKind.wrap, IntKind.bits, IntKind.signed]
theorem wrap_i64 {n : Int} (h1 : -9223372036854775808 ≤ n) (h2 : n ≤ 9223372036854775807) : IntKind.i64.wrap n = n := IntWalk.i64_in n ⟨h1, h2⟩

/-- 'uint64(n) << 1', turned where n is below nought. -/
theorem zig_pos {n : Int} (h1 : 0 ≤ n) (h2 : n ≤ 9223372036854775807) : IntKind.u64.wrap (IntKind.u64.wrap n * 2 ^ (min 1 64)) = ((zig n : Nat) : Int) := by
  rw [wrap_u64, wrap_u64]; unfold zig; rw [if_neg (by omega)]
  have : (2 : Int) ^ (min 1 64) = 2 := by decide
  rw [this]; omega

theorem zig_neg {n : Int} (h1 : -9223372036854775808 ≤ n) (h2 : n < 0) :
    IntKind.u64.wrap (BitVec.ofInt 64 IntKind.u64.max ^^^ BitVec.ofInt 64 (IntKind.u64.wrap (IntKind.u64.wrap n * 2 ^ (min 1 64)))).toNat = ((zig n : Nat) : Int) := by
  have e1 : (2 : Int) ^ (min 1 64) = 2 := by decide
  rw [e1, wrap_u64, wrap_u64, wrap_u64]
  obtain ⟨q, hq⟩ : ∃ q : Nat, n % 18446744073709551616 * 2 % 18446744073709551616 = q ∧ q < 18446744073709551616 := ⟨(n % 18446744073709551616 * 2 % 18446744073709551616).toNat, by omega, by omega⟩
  rw [hq.1]
  have e2 : BitVec.ofInt 64 IntKind.u64.max = BitVec.allOnes 64 := by decide
  have e3 : BitVec.ofInt 64 (q : Int) = BitVec.ofNat 64 q := by simp
  rw [e2, e3, BitVec.allOnes_xor]
  have e4 : (~~~(BitVec.ofNat 64 q)).toNat = 18446744073709551615 - q := by
    rw [BitVec.toNat_not, BitVec.toNat_ofNat, Nat.mod_eq_of_lt hq.2]
  rw [e4]
  unfold zig; rw [if_pos h2]
  omega

/-- 'byte(u) | 128'. -/
theorem or128 (u : Nat) : IntKind.u8.wrap (BitVec.ofInt 8 (IntKind.u8.wrap (u : Int)) ||| BitVec.ofInt 8 128).toNat = ((UInt8.ofNat (u % 128 + 128)).toNat : Int) := by
  rw [wrap_u8, wrap_u8]
  have e0 : ((u : Int) % 256) = ((u % 256 : Nat) : Int) := by omega
  have hlt : u % 256 < 256 := Nat.mod_lt _ (by decide)
  have e5 : u % 128 = u % 256 % 128 := by omega
  rw [e0, e5]
  generalize u % 256 = v at hlt ⊢
  have key : ∀ v : Fin 256, ((BitVec.ofInt 8 ((v : Nat) : Int) ||| BitVec.ofInt 8 128).toNat : Int) % 256 = ((UInt8.ofNat (v.val % 128 + 128)).toNat : Int) := by decide +kernel
  exact key ⟨v, hlt⟩

theorem byteU (u : Nat) : IntKind.u8.wrap (u : Int) = ((UInt8.ofNat u).toNat : Int) := by
  rw [wrap_u8]
  simp

theorem shr7 (u : Nat) : (u : Int).fdiv (2 ^ (min (7 : Int).toNat 64)) = ((u / 128 : Nat) : Int) := by
  have : (2 : Int) ^ (min (7 : Int).toNat 64) = 128 := by decide
  rw [this, Int.fdiv_eq_ediv_of_nonneg _ (by decide)]
  omega

theorem or128' (u : Nat) : IntKind.u8.wrap (BitVec.ofInt IntKind.u8.bits (IntKind.u8.wrap (u : Int)) ||| BitVec.ofInt IntKind.u8.bits 128).toNat = ((UInt8.ofNat (u % 128 + 128)).toNat : Int) := or128 u
theorem shr7' (u : Nat) : (u : Int).fdiv (2 ^ min 7 IntKind.u64.bits) = ((u / 128 : Nat) : Int) := shr7 u

/-! ### Reading -/
def unzig (u : Nat) : Int := if u % 2 = 1 then -((u / 2 : Nat) : Int) - 1 else ((u / 2 : Nat) : Int)

theorem unzig_zig (n : Int) : unzig (zig n) = n := by
  unfold unzig zig
  split <;> split <;> omega

/-- What is read from place i on, u read so far: the number, how many bytes, the error. -/
def getL : Nat → Nat → List UInt8 → Int × Int × Int
  | _, _, [] => (0, 0, 2)
  | i, u, c :: r =>
    if i = 9 ∧ 1 < c.toNat then (0, 0, 1)
    else if 127 < c.toNat then getL (i + 1) (u + c.toNat % 128 * 128 ^ i) r
    else if 0 < i ∧ c.toNat = 0 then (0, 0, 1)
    else (unzig (u + c.toNat % 128 * 128 ^ i), (i : Int) + 1, 0)

def getB (bs : List UInt8) : Int × Int × Int := getL 0 0 bs

theorem shl_lt {u d i : Nat} (hu : u < 128 ^ i) (hd : d < 128) (hi : i ≤ 9) (h9 : i = 9 → d ≤ 1) : u + d * 128 ^ i < 18446744073709551616 := by
  have e128 : 128 ^ i = 2 ^ (7 * i) := by rw [Nat.pow_mul]
  rw [e128] at hu ⊢
  have h64 : (2 : Nat) ^ 64 = 18446744073709551616 := by decide
  have h1 : d * 2 ^ (7 * i) + 2 ^ (7 * i) ≤ 2 ^ 64 := by
    by_cases h : i = 9
    · subst h
      have := h9 rfl
      have h2 : (d + 1) * 2 ^ (7 * 9) ≤ 2 * 2 ^ (7 * 9) := Nat.mul_le_mul_right _ (by omega)
      rw [Nat.add_mul, Nat.one_mul] at h2
      exact Nat.le_trans h2 (by decide)
    · have h2 : (d + 1) * 2 ^ (7 * i) ≤ 2 ^ 7 * 2 ^ (7 * i) := Nat.mul_le_mul_right _ (by omega)
      rw [Nat.add_mul, Nat.one_mul, ← Nat.pow_add] at h2
      exact Nat.le_trans h2 (Nat.pow_le_pow_right (by decide) (by omega))
  omega

/-- 'u |= uint64(c&127) << (7 * i)'. -/
theorem or_shl {u d i : Nat} (hu : u < 128 ^ i) (hd : d < 128) (hi : i ≤ 9) (h9 : i = 9 → d ≤ 1) :
    IntKind.u64.wrap (BitVec.ofInt IntKind.u64.bits (u : Int) ||| BitVec.ofInt IntKind.u64.bits (IntKind.u64.wrap ((d : Int) * 2 ^ (min (7 * i) 64)))).toNat = ((u + d * 128 ^ i : Nat) : Int) := by
  have e128 : 128 ^ i = 2 ^ (7 * i) := by rw [Nat.pow_mul]
  have hmin : min (7 * i) 64 = 7 * i := by omega
  rw [e128] at hu ⊢
  have htot : u + d * 2 ^ (7 * i) < 2 ^ 64 := by
    have h1 : d * 2 ^ (7 * i) + 2 ^ (7 * i) ≤ 2 ^ 64 := by
      by_cases h : i = 9
      · subst h
        have := h9 rfl
        have h2 : (d + 1) * 2 ^ (7 * 9) ≤ 2 * 2 ^ (7 * 9) := Nat.mul_le_mul_right _ (by omega)
        rw [Nat.add_mul, Nat.one_mul] at h2
        exact Nat.le_trans h2 (by decide)
      · have h2 : (d + 1) * 2 ^ (7 * i) ≤ 2 ^ 7 * 2 ^ (7 * i) := Nat.mul_le_mul_right _ (by omega)
        rw [Nat.add_mul, Nat.one_mul, ← Nat.pow_add] at h2
        exact Nat.le_trans h2 (Nat.pow_le_pow_right (by decide) (by omega))
    omega
  have e1 : ((d : Int) * 2 ^ (min (7 * i) 64)) = ((d * 2 ^ (7 * i) : Nat) : Int) := by
    rw [hmin]
    simp
  rw [e1, wrap_u64, wrap_u64]
  have e2 : ((d * 2 ^ (7 * i) : Nat) : Int) % 18446744073709551616 = ((d * 2 ^ (7 * i) : Nat) : Int) := by
    have h64 : (2 : Nat) ^ 64 = 18446744073709551616 := by decide
    have : d * 2 ^ (7 * i) < 18446744073709551616 := by omega
    omega
  rw [e2]
  show ((BitVec.ofInt 64 (u : Int) ||| BitVec.ofInt 64 ((d * 2 ^ (7 * i) : Nat) : Int)).toNat : Int) % 18446744073709551616 = _
  have h64 : (2 : Nat) ^ 64 = 18446744073709551616 := by decide
  rw [h64] at htot
  rw [BitVec.ofInt_natCast, BitVec.ofInt_natCast, BitVec.toNat_or, BitVec.toNat_ofNat, BitVec.toNat_ofNat, h64, Nat.mod_eq_of_lt (by omega), Nat.mod_eq_of_lt (by omega)]
  have e3 : u ||| d * 2 ^ (7 * i) = u + d * 2 ^ (7 * i) := by
    rw [Nat.or_comm, Nat.mul_comm, ← Nat.two_pow_add_eq_or_of_lt hu, Nat.add_comm]
  rw [e3]
  omega

theorem and127 (c : UInt8) : IntKind.u64.wrap (IntKind.u8.wrap (BitVec.ofInt IntKind.u8.bits (c.toNat : Int) &&& BitVec.ofInt IntKind.u8.bits 127).toNat) = ((c.toNat % 128 : Nat) : Int) := by
  rw [wrap_u8, wrap_u64]
  have hlt : c.toNat < 256 := c.toNat_lt
  show (((BitVec.ofInt 8 (c.toNat : Int) &&& BitVec.ofInt 8 127).toNat : Int) % 256) % 18446744073709551616 = _
  generalize c.toNat = v at hlt ⊢
  have key : ∀ v : Fin 256, (((BitVec.ofInt 8 ((v.val : Nat) : Int) &&& BitVec.ofInt 8 127).toNat : Int) % 256) % 18446744073709551616 = ((v.val % 128 : Nat) : Int) := by decide +kernel
  exact key ⟨v, hlt⟩

theorem shr1 {u : Nat} (hu : u < 18446744073709551616) : IntKind.i64.wrap ((u : Int).fdiv (2 ^ (min 1 IntKind.u64.bits))) = ((u / 2 : Nat) : Int) := by
  have : (2 : Int) ^ (min 1 IntKind.u64.bits) = 2 := by decide
  rw [this, Int.fdiv_eq_ediv_of_nonneg _ (by decide), wrap_i64 (by omega) (by omega)]
  omega

theorem and1 (u : Nat) : IntKind.u64.wrap (BitVec.ofInt IntKind.u64.bits (u : Int) &&& BitVec.ofInt IntKind.u64.bits 1).toNat = ((u % 2 : Nat) : Int) := by
  rw [wrap_u64]
  show ((BitVec.ofInt 64 (u : Int) &&& BitVec.ofInt 64 1).toNat : Int) % 18446744073709551616 = _
  have e : BitVec.ofInt 64 1 = BitVec.ofNat 64 1 := by decide
  rw [BitVec.ofInt_natCast, e, BitVec.toNat_and, BitVec.toNat_ofNat, BitVec.toNat_ofNat]
  have : (2 : Nat) ^ 64 = 18446744073709551616 := by decide
  rw [this, Nat.mod_eq_of_lt (by decide : 1 < 18446744073709551616), Nat.and_one_is_mod]
  omega

theorem not64 {q : Nat} (hq : q < 9223372036854775808) : IntKind.i64.wrap (BitVec.ofInt IntKind.i64.bits (-1) ^^^ BitVec.ofInt IntKind.i64.bits (q : Int)).toNat = -(q : Int) - 1 := by
  have e1 : BitVec.ofInt 64 (-1) = BitVec.allOnes 64 := by decide
  show IntKind.i64.wrap (BitVec.ofInt 64 (-1) ^^^ BitVec.ofInt 64 (q : Int)).toNat = _
  have h64 : (2 : Nat) ^ 64 = 18446744073709551616 := by decide
  rw [e1, BitVec.ofInt_natCast, BitVec.allOnes_xor, BitVec.toNat_not, BitVec.toNat_ofNat, h64, Nat.mod_eq_of_lt (by omega)]
  simp [IntKind.wrap, IntKind.bits, IntKind.signed]
  omega

theorem or_shl' {u d i : Nat} (hu : u < 128 ^ i) (hd : d < 128) (hi : i ≤ 9) (h9 : i = 9 → d ≤ 1) :
    IntKind.u64.wrap (BitVec.ofInt IntKind.u64.bits (u : Int) ||| BitVec.ofInt IntKind.u64.bits (IntKind.u64.wrap ((d : Int) * 2 ^ (min (7 * i) IntKind.u64.bits)))).toNat = ((u + d * 128 ^ i : Nat) : Int) := or_shl hu hd hi h9

end Go.Proofs.YthhkdanpjcnegaaGreat
