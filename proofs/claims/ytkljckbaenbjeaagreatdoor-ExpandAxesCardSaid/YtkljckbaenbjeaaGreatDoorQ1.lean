/- Some texts as one, one behind the other; what is not leaned on is left out. -/
import Derived.Test.YtkljckbaenbjeaaGreatDoorAbSome
import Derived.Lib.Mul64
import Derived.Test.YtkljckbaenbjeaaGreatDoorC00q
import Derived.Test.YtkljckbaenbjeaaGreatDoorAbCfg
set_option linter.unusedSimpArgs false
set_option linter.unusedVariables false
namespace Go.Proofs.YtkljckbaenbjeaaGreatDoor.Ab
open Go
set_option linter.unusedSimpArgs false
set_option maxRecDepth 100000
set_option linter.unusedVariables false
abbrev U (n : Int) : AV := .d (.int .u64 n)
theorem wu {x : Int} : IntKind.wrap .u64 x = x % 18446744073709551616 := by simp [IntKind.wrap, IntKind.signed, IntKind.bits]
theorem u_add {a b : Nat} : iadd .u64 (a : Int) (b : Int) = (((a + b) % 18446744073709551616 : Nat) : Int) := by unfold iadd; rw [wu]; omega
theorem u_mul {a b : Nat} : imul .u64 (a : Int) (b : Int) = (((a * b) % 18446744073709551616 : Nat) : Int) := by
 unfold imul; rw [wu, ← Int.natCast_mul]; omega
theorem u_sub {a b : Nat} (h : b ≤ a) (ha : a < 18446744073709551616) : isub .u64 (a : Int) (b : Int) = ((a - b : Nat) : Int) := by unfold isub; rw [wu]; omega
theorem u_sub' {a b : Nat} (hb : b ≤ 18446744073709551616) : isub .u64 (a : Int) (b : Int) = (((a + (18446744073709551616 - b)) % 18446744073709551616 : Nat) : Int) := by unfold isub; rw [wu]; omega
theorem u_quo {a b : Nat} (ha : a < 18446744073709551616) : iquo .u64 (a : Int) (b : Int) = ((a / b : Nat) : Int) := by
 unfold iquo
 have e : ((a : Int).tdiv (b : Int)) = ((a / b : Nat) : Int) := rfl
 rw [e, wu]
 have := Nat.div_le_self a b
 generalize a / b = q at *
 omega
theorem u_rem {a b : Nat} : irem (a : Int) (b : Int) = ((a % b : Nat) : Int) := by unfold irem; rfl
theorem u_shr {a : Nat} (n : Nat) (hn : n ≤ 64) : ishr .u64 (a : Int) n = ((a / 2 ^ n : Nat) : Int) := by
 unfold ishr
 have e : min n (IntKind.bits .u64) = n := Nat.min_eq_left hn
 rw [e]
 show Int.fdiv (a : Int) (((2 : Nat) : Int) ^ n) = _
 rw [← Int.natCast_pow]
 rw [Int.fdiv_eq_ediv_of_nonneg _ (Int.natCast_nonneg _)]
 rfl
theorem u_shl {a : Nat} (n : Nat) (hn : n ≤ 64) : ishl .u64 (a : Int) n = (((a * 2 ^ n) % 18446744073709551616 : Nat) : Int) := by
 unfold ishl
 have e : min n (IntKind.bits .u64) = n := Nat.min_eq_left hn
 rw [e, wu]
 show ((a : Int) * ((2 : Nat) : Int) ^ n) % _ = _
 rw [← Int.natCast_pow, ← Int.natCast_mul]
 omega
theorem ofInt_nat {x : Nat} (hx : x < 18446744073709551616) : (BitVec.ofInt 64 (x : Int)).toNat = x := by rw [BitVec.toNat_ofInt]; omega
theorem u_and {x y : Nat} (hx : x < 18446744073709551616) (hy : y < 18446744073709551616) : iand .u64 (x : Int) (y : Int) = ((x &&& y : Nat) : Int) := by
 unfold iand
 show IntKind.wrap .u64 (((BitVec.ofInt 64 (x : Int) &&& BitVec.ofInt 64 (y : Int)).toNat : Nat) : Int) = _
 rw [BitVec.toNat_and, ofInt_nat hx, ofInt_nat hy, wu]
 have : x &&& y ≤ x := Nat.and_le_left
 omega
theorem u_mask {x : Nat} (hx : x < 18446744073709551616) : iand .u64 (x : Int) (Int.ofNat 4294967295) = ((x % 4294967296 : Nat) : Int) := by
 rw [Int.ofNat_eq_natCast, u_and hx (by decide)]
 have := Nat.and_two_pow_sub_one_eq_mod x 32
 simp only [Nat.reducePow, Nat.reduceSub] at this
 rw [this]
theorem u_or {x y : Nat} (hx : x < 18446744073709551616) (hy : y < 18446744073709551616) : ior .u64 (x : Int) (y : Int) = ((x ||| y : Nat) : Int) := by
 unfold ior
 show IntKind.wrap .u64 (((BitVec.ofInt 64 (x : Int) ||| BitVec.ofInt 64 (y : Int)).toNat : Nat) : Int) = _
 rw [BitVec.toNat_or, ofInt_nat hx, ofInt_nat hy, wu]
 have : x ||| y < 2 ^ 64 := Nat.or_lt_two_pow (by simpa using hx) (by simpa using hy)
 omega
theorem or_add {h l n : Nat} (hl : l < 2 ^ n) : (h * 2 ^ n) ||| l = h * 2 ^ n + l := by
 rw [← Nat.shiftLeft_eq, Nat.shiftLeft_add_eq_or_of_lt hl]
theorem iz_u {n : Nat} (h : n ≠ 0) : iz (n : Int) = false := by rw [iz_f]; omega
theorem U_eq {a b : Int} (h : a = b) : U a = U b := by rw [h]
end Go.Proofs.YtkljckbaenbjeaaGreatDoor.Ab
namespace Go.Proofs.YtkljckbaenbjeaaGreatDoor.Ab
open Go
set_option linter.unusedSimpArgs false
set_option maxRecDepth 100000
set_option linter.unusedVariables false
set_option maxHeartbeats 4000000
theorem pur_closed {F : Nat → Option Fn} {f n : Nat} {args : List AV} {c : CR} {rc' : Rec} (h : ((ext F n).call f args [] .no).map (fun r => (r.r.map (deepOwn 0 r.h), r.rc)) = some (some c, rc')) : Pur F f args [] .no c rc' := by
 cases hr : (ext F n).call f args [] .no with
 | none => rw [hr] at h; cases h
 | some r =>
  rw [hr] at h
  simp only [Option.map_some, Option.some.injEq, Prod.mk.injEq] at h
  exact ⟨r, ⟨n, hr⟩, h.1, h.2⟩
theorem indexByteString_ok (s : List UInt8) (c : UInt8) (h : Heap) : Pur F0 134 [S s, .d (.int .u8 c.toNat)] h .no (.ret (I (Lib.indexByte s c))) .no := by
 have e : Lib.indexByte s c = Lib.indexByte s (UInt8.ofNat ((c.toNat : Nat) : Int).toNat) := by rw [Int.toNat_natCast, UInt8.ofNat_toNat]
 rw [e]
 exact pur_known (g := kIndexByte) (by kernel_rfl) rfl
theorem indexByte_ok (s : List UInt8) (c : UInt8) : Pur F0 114 [S s, .d (.int .u8 c.toNat)] [] .no (.ret (I (Lib.indexByte s c))) .no := by
 refine pur_code (cf := cfn Tryz.f114) (by kernel_rfl) ?_
 conv => arg 3; reduce
 conv => whnf
 repeat' ((first | refine bt ?_ | refine bf ?_ | refine vpur_i (indexByteString_ok s c _) ?_ | refine vl ?_ | fail) <;> conv => whnf)
 exact ⟨rfl, rfl⟩
end Go.Proofs.YtkljckbaenbjeaaGreatDoor.Ab
namespace Go.Proofs.YtkljckbaenbjeaaGreatDoor.Ab
open Go
set_option linter.unusedSimpArgs false
set_option maxRecDepth 100000
set_option linter.unusedVariables false
set_option maxHeartbeats 4000000
def isPx (n : Int) : Bool := decide (-68719476736 ≤ n) && decide (n ≤ 68719476736)
theorem fixedIs_ok (n : Int) : Pur F0 58 [I n] [] .no (.ret (B (isPx n))) .no := by
 refine pur_code (cf := cfn Tryz.f58) (by kernel_rfl) ?_
 conv => arg 3; reduce
 conv => whnf
 repeat' ((first | refine bt ?_ | refine bf ?_ | refine vl ?_ | refine vb_i (fun h => ?_) (fun h => ?_) | fail) <;> conv => whnf)
 all_goals (refine ⟨?_, rfl⟩)
 all_goals (simp_all [isPx, ile_d] <;> omega)
theorem u_cast {n : Int} (h1 : -1000000000000 ≤ n) (h2 : n ≤ 1000000000000) (h : 0 ≤ n) : icast .u64 n = n := by unfold icast; rw [wu]; omega
theorem u_neg {n : Int} (h1 : -1000000000000 ≤ n) (h2 : n ≤ 1000000000000) : isub .u64 0 (icast .u64 n) = (-n) % 18446744073709551616 := by unfold isub icast; rw [wu, wu]; omega
theorem size_ok (n : Int) (h1 : -1000000000000 ≤ n) (h2 : n ≤ 1000000000000) : Pur F0 142 [I n] [] .no (.ret (U n.natAbs)) .no := by
 refine pur_code (cf := cfn Tryz.f142) (by kernel_rfl) ?_
 conv => arg 3; reduce
 conv => whnf
 repeat' ((first | refine bt ?_ | refine bf ?_ | refine vl ?_ | refine vb_i (fun h => ?_) (fun h => ?_) | fail) <;> conv => whnf)
 all_goals (refine ⟨congrArg CR.ret (U_eq ?_), rfl⟩)
 · rw [u_neg h1 h2]; rw [ilt_t] at *; simp only [Int.ofNat_eq_natCast] at *; omega
 · rw [ilt_f] at *; simp only [Int.ofNat_eq_natCast] at *; rw [u_cast h1 h2 (by omega)]; omega
theorem mul64_ok (x y : Nat) (hx : x < 18446744073709551616) (hy : y < 18446744073709551616) :
 Pur F0 141 [U x, U y] [] .no (.ret (.tup [U (x * y / 18446744073709551616 : Nat), U (x * y % 18446744073709551616 : Nat)])) .no := by
 refine pur_code (cf := cfn Tryz.f141) (by kernel_rfl) ?_
 conv => arg 3; reduce
 conv => whnf
 repeat' ((first | refine bt ?_ | refine bf ?_ | refine vl ?_ | refine vb_i (fun h => ?_) (fun h => ?_) | fail) <;> conv => whnf)
 obtain ⟨h1, h2, h3, h4⟩ := Lib.mul64_hi x y hx hy
 have hx1 : x / 4294967296 < 4294967296 := by omega
 have e1 : ishr .u64 (x : Int) (Int.ofNat 32).toNat = ((x / 4294967296 : Nat) : Int) := u_shr 32 (by decide)
 have e2 : ishr .u64 (y : Int) (Int.ofNat 32).toNat = ((y / 4294967296 : Nat) : Int) := u_shr 32 (by decide)
 have e3 : ∀ z : Nat, ishr .u64 (z : Int) (Int.ofNat 32).toNat = ((z / 4294967296 : Nat) : Int) := fun z => u_shr 32 (by decide)
 have e4 : ∀ z : Nat, iand .u64 ((z % 18446744073709551616 : Nat) : Int) (Int.ofNat 4294967295) = ((z % 18446744073709551616 % 4294967296 : Nat) : Int) := fun z => u_mask (by omega)
 have m1 : x / 4294967296 * (y / 4294967296) ≤ 18446744065119617025 := Lib.half_mul_le (by omega) (by omega)
 have m2 : x / 4294967296 * (y % 4294967296) ≤ 18446744065119617025 := Lib.half_mul_le (by omega) (by omega)
 have m3 : x % 4294967296 * (y / 4294967296) ≤ 18446744065119617025 := Lib.half_mul_le (by omega) (by omega)
 have m4 : x % 4294967296 * (y % 4294967296) ≤ 18446744065119617025 := Lib.half_mul_le (by omega) (by omega)
 refine ⟨?_, rfl⟩
 simp only [e1, e2, u_mask hx, u_mask hy, u_mul, u_add, e3, e4]
 rw [show ∀ a b c d : Int, a = c → b = d → CR.ret (AV.tup [.d (.int .u64 a), .d (.int .u64 b)]) = CR.ret (AV.tup [U c, U d]) from fun a b c d h h' => by rw [h, h']]
 · rw [← h4]
   generalize x / 4294967296 * (y / 4294967296) = a at *
   generalize x / 4294967296 * (y % 4294967296) = b at *
   generalize x % 4294967296 * (y / 4294967296) = c at *
   generalize x % 4294967296 * (y % 4294967296) = d at *
   have q1 : a % 18446744073709551616 = a := by omega
   have q2 : b % 18446744073709551616 = b := by omega
   have q3 : c % 18446744073709551616 = c := by omega
   have q4 : d % 18446744073709551616 = d := by omega
   rw [q1, q2, q3, q4]
   have q5 : (b + d / 4294967296) % 18446744073709551616 = b + d / 4294967296 := by omega
   rw [q5]
   have q6 : ((b + d / 4294967296) % 4294967296 + c) % 18446744073709551616 = (b + d / 4294967296) % 4294967296 + c := by omega
   rw [q6]
   have h5 : x * y / 18446744073709551616 < 18446744073709551616 := by
    apply Nat.div_lt_of_lt_mul
    exact Nat.mul_lt_mul_of_lt_of_lt hx hy
   omega
 · rfl
end Go.Proofs.YtkljckbaenbjeaaGreatDoor.Ab
namespace Go.Proofs.YtkljckbaenbjeaaGreatDoor.Ab
open Go
set_option linter.unusedSimpArgs false
set_option maxRecDepth 100000
set_option linter.unusedVariables false
set_option maxHeartbeats 4000000
theorem lz_ok : Pur F0 155 [U (100000 : Nat)] [] .no (.ret (I 47)) .no := pur_closed (n := 100) (by kernel_rfl)
theorem c47 : icast .u64 47 = ((47 : Nat) : Int) := by unfold icast; rw [wu]; rfl
theorem y47 : ishl .u64 ((100000 : Nat) : Int) (icast .u64 47).toNat = ((14073748835532800000 : Nat) : Int) := by rw [c47]; exact u_shl 47 (by decide)
theorem d_z1 (u : Nat) (hub : u < 14073748835532800000) : ile (Int.ofNat 4294967296) ((u / 3276800000 : Nat) : Int) = false := by rw [ile_f]; simp only [Int.ofNat_eq_natCast]; omega
theorem d_z2 (v : Nat) : ∀ a b : Nat, ilt (iadd .u64 (imul .u64 (Int.ofNat 4294967296) (a : Int)) (v : Int)) (imul .u64 (b : Int) ((0 : Nat) : Int)) = false := fun a b => by
 rw [Int.ofNat_eq_natCast, u_mul, u_mul, u_add, ilt_f]
 rw [Nat.mul_zero]
 exact Int.natCast_nonneg _
theorem d_q (u : Nat) (hub : u < 14073748835532800000) : iquo .u64 (u : Int) ((3276800000 : Nat) : Int) = ((u / 3276800000 : Nat) : Int) := u_quo (by omega)
theorem d_r (u : Nat) (hub : u < 14073748835532800000) : isub .u64 (u : Int) (imul .u64 ((u / 3276800000 : Nat) : Int) ((3276800000 : Nat) : Int)) = ((u % 3276800000 : Nat) : Int) := by
 rw [u_mul, u_sub (by omega) (by omega)]; congr 1; omega
theorem d_un (u v : Nat) (hub : u < 14073748835532800000) (hv : v < 4294967296) :
 isub .u64 (iadd .u64 (imul .u64 (u : Int) (Int.ofNat 4294967296)) (v : Int)) (imul .u64 ((u / 3276800000 : Nat) : Int) ((14073748835532800000 : Nat) : Int)) = ((u % 3276800000 * 4294967296 + v : Nat) : Int) := by
 rw [Int.ofNat_eq_natCast, u_mul, u_mul, u_add, u_sub' (by omega)]
 congr 1
 have h1 : u = 3276800000 * (u / 3276800000) + u % 3276800000 := by omega
 have h2 : u % 3276800000 < 3276800000 := by omega
 have h3 : u / 3276800000 < 4294967296 := by omega
 generalize u / 3276800000 = q at *
 generalize u % 3276800000 = r at *
 subst h1
 omega
theorem d_end (u v q : Nat) (h1 : u < 4294967296) (h2 : v < 4294967296) : iadd .u64 (imul .u64 (u : Int) (Int.ofNat 4294967296)) (v : Int) = ((u * 4294967296 + v : Nat) : Int) := by
 rw [Int.ofNat_eq_natCast, u_mul, u_add]
 congr 1
 omega
theorem d_rem (u : Nat) (hub : u < 14073748835532800000) :
 isub .u64 (iadd .u64 (imul .u64 (u : Int) (Int.ofNat 4294967296)) ((0 : Nat) : Int)) (imul .u64 ((u / 3276800000 : Nat) : Int) ((14073748835532800000 : Nat) : Int)) = ((u % 3276800000 * 4294967296 : Nat) : Int) := by have h := d_un u 0 hub (by decide); rw [Nat.add_zero] at h; exact h
theorem d_shr (u : Nat) : ishr .u64 ((u % 3276800000 * 4294967296 : Nat) : Int) ((47 : Nat) : Int).toNat = ((u % 3276800000 / 32768 : Nat) : Int) := by
 rw [show ((47 : Nat) : Int).toNat = 47 from rfl, u_shr 47 (by decide)]
 have : u % 3276800000 * 4294967296 / 2 ^ 47 = u % 3276800000 / 32768 := by omega
 rw [this]
theorem d_fin (hi lo u v w : Nat) (hh : hi < 100000) (hl : lo < 18446744073709551616) (hu : hi * 140737488355328 + lo / 131072 = u) (hv : lo % 131072 * 32768 = v) (hw : u % 3276800000 * 4294967296 + v = w) :
 u / 3276800000 * 4294967296 + w / 3276800000 = (hi * 18446744073709551616 + lo) / 100000 ∧ w % 3276800000 / 32768 = (hi * 18446744073709551616 + lo) % 100000 := by
 have e : (hi * 18446744073709551616 + lo) * 32768 = u * 4294967296 + v := by omega
 obtain ⟨N, hN⟩ : ∃ N : Nat, hi * 18446744073709551616 + lo = N := ⟨_, rfl⟩
 rw [hN] at e ⊢
 clear hu hv hl hh hN
 have a1 : u = 3276800000 * (u / 3276800000) + u % 3276800000 := by omega
 have a2 : w = 3276800000 * (w / 3276800000) + w % 3276800000 := by omega
 have a3 : w % 3276800000 < 3276800000 := by omega
 generalize u / 3276800000 = q1 at *
 generalize u % 3276800000 = r1 at *
 generalize w / 3276800000 = q2 at *
 generalize w % 3276800000 = r2 at *
 have a4 : N * 32768 = 3276800000 * (q1 * 4294967296 + q2) + r2 := by omega
 obtain ⟨Q, hQ⟩ : ∃ Q : Nat, q1 * 4294967296 + q2 = Q := ⟨_, rfl⟩
 rw [hQ] at a4 ⊢
 clear e hw a1 a2 hQ
 constructor <;> omega
theorem d_w (u v w : Nat) (hv : v < 4294967296) (hw : u % 3276800000 * 4294967296 + v = w) : w < 14073748835532800000 := by omega
theorem d_vb (lo v : Nat) (hv : lo % 131072 * 32768 = v) : v < 4294967296 := by omega
theorem d_ub (hi lo u : Nat) (hh : hi < 100000) (hl : lo < 18446744073709551616) (hu : hi * 140737488355328 + lo / 131072 = u) : u < 14073748835532800000 := by omega
theorem d_q1 (u : Nat) (hub : u < 14073748835532800000) : u / 3276800000 < 4294967296 := by omega
theorem d_u3 (hi lo : Nat) (hh : hi < 100000) (hl : lo < 18446744073709551616) : ior .u64 (ishl .u64 (hi : Int) ((47 : Nat) : Int).toNat) (ishr .u64 (lo : Int) 17) = ((hi * 140737488355328 + lo / 131072 : Nat) : Int) := by
 rw [show ((47 : Nat) : Int).toNat = 47 from rfl, u_shl 47 (by decide), u_shr 17 (by decide), u_or (by omega) (by omega)]
 have a1 : hi * 2 ^ 47 % 18446744073709551616 = hi * 2 ^ 47 := by omega
 rw [a1, or_add (n := 47) (by omega)]
theorem d_u1 (lo : Nat) (hl : lo < 18446744073709551616) : ishr .u64 (ishl .u64 (lo : Int) ((47 : Nat) : Int).toNat) (Int.ofNat 32).toNat = ((lo % 131072 * 32768 : Nat) : Int) := by
 rw [show ((47 : Nat) : Int).toNat = 47 from rfl, u_shl 47 (by decide)]
 show ishr .u64 _ 32 = _
 rw [u_shr 32 (by decide)]
 congr 1
 omega
theorem d_u0 (lo : Nat) (hl : lo < 18446744073709551616) : iand .u64 (ishl .u64 (lo : Int) ((47 : Nat) : Int).toNat) (Int.ofNat 4294967295) = ((0 : Nat) : Int) := by
 rw [show ((47 : Nat) : Int).toNat = 47 from rfl, u_shl 47 (by decide), u_mask (by omega)]
 congr 1
 omega
theorem div64_ok (hi lo : Nat) (hh : hi < 100000) (hl : lo < 18446744073709551616) :
 Pur F0 143 [U hi, U lo, U (100000 : Nat)] [] .no (.ret (.tup [U ((hi * 18446744073709551616 + lo) / 100000 : Nat), U ((hi * 18446744073709551616 + lo) % 100000 : Nat)])) .no := by
 refine pur_code (cf := cfn Tryz.f143) (by kernel_rfl) ?_
 conv => arg 3; reduce
 conv => whnf
 have t1 : ieq ((100000 : Nat) : Int) (Int.ofNat 0) = false := by rw [ieq_f]; decide
 have t2 : ile ((100000 : Nat) : Int) (hi : Int) = false := by rw [ile_f]; omega
 have t3 : iz ((100000 : Nat) : Int) = false := iz_u (by decide)
 by_cases h0 : hi = 0
 · subst h0
   have t4 : ieq ((0 : Nat) : Int) (Int.ofNat 0) = true := by rw [ieq_t]; rfl
   repeat' ((first | refine bt ?_ | refine bf ?_ | refine vpur_i lz_ok ?_ | refine vl ?_ | fail) <;> conv => whnf)
   refine ⟨?_, rfl⟩
   rw [u_quo hl, u_rem, Nat.zero_mul, Nat.zero_add]
 · have t4 : ieq (hi : Int) (Int.ofNat 0) = false := by rw [ieq_f]; simp only [Int.ofNat_eq_natCast]; omega
   have t5 : decide (0 ≤ icast IntKind.u64 47) = true := by rw [c47]; decide
   have t6 : decide (0 ≤ isub IntKind.u64 (Int.ofNat 64) (icast IntKind.u64 47)) = true := by rw [c47, Int.ofNat_eq_natCast, u_sub (by decide) (by decide)]; decide
   have y1 : ishr .u64 (ishl .u64 ((100000 : Nat) : Int) (icast .u64 47).toNat) (Int.ofNat 32).toNat = ((3276800000 : Nat) : Int) := by rw [y47]; exact u_shr 32 (by decide)
   have y0 : iand .u64 (ishl .u64 ((100000 : Nat) : Int) (icast .u64 47).toNat) (Int.ofNat 4294967295) = ((0 : Nat) : Int) := by rw [y47, u_mask (by decide)]
   have t7 : iz (ishr IntKind.u64 (ishl IntKind.u64 ((100000 : Nat) : Int) (icast IntKind.u64 47).toNat) (Int.ofNat 32).toNat) = false := by rw [y1]; exact iz_u (by decide)
   have s64 : (isub IntKind.u64 (Int.ofNat 64) (icast IntKind.u64 47)).toNat = 17 := by rw [c47, Int.ofNat_eq_natCast, u_sub (by decide) (by decide)]; decide
   have u3 : ior .u64 (ishl .u64 (hi : Int) (icast .u64 47).toNat) (ishr .u64 (lo : Int) (isub .u64 (Int.ofNat 64) (icast .u64 47)).toNat) = ((hi * 140737488355328 + lo / 131072 : Nat) : Int) := by
    rw [s64, c47]; exact d_u3 hi lo hh hl
   have u1 : ishr .u64 (ishl .u64 (lo : Int) (icast .u64 47).toNat) (Int.ofNat 32).toNat = ((lo % 131072 * 32768 : Nat) : Int) := by rw [c47]; exact d_u1 lo hl
   have u0 : iand .u64 (ishl .u64 (lo : Int) (icast .u64 47).toNat) (Int.ofNat 4294967295) = ((0 : Nat) : Int) := by rw [c47]; exact d_u0 lo hl
   repeat' ((first | refine bt ?_ | refine bf ?_ | refine vpur_i lz_ok ?_ | refine vl ?_ | fail) <;> conv => whnf)
   obtain ⟨u, hu⟩ : ∃ u : Nat, hi * 140737488355328 + lo / 131072 = u := ⟨_, rfl⟩
   obtain ⟨v, hv⟩ : ∃ v : Nat, lo % 131072 * 32768 = v := ⟨_, rfl⟩
   rw [hu] at u3
   rw [hv] at u1
   have hub := d_ub hi lo u hh hl hu
   have hvb := d_vb lo v hv
   refine vloop_eq2 (fr' := [(2, U (14073748835532800000 : Nat)), (6, U (Int.ofNat 0)), (7, U (Int.ofNat 0)), (8, U (47 : Nat)), (9, U (3276800000 : Nat)), (10, U (0 : Nat)), (11, U u), (13, U v), (14, U (0 : Nat)), (15, U (u / 3276800000 : Nat)), (16, U (u % 3276800000 : Nat))]) (h' := []) ?_ rfl ?_
   · rw [u3, u1, u0, y0, y1, y47, d_q u hub, d_r u hub, c47]
   have z1 := d_z1 u hub
   refine vloop_by (σ := Unit) (fun _ => [(2, U (14073748835532800000 : Nat)), (6, U (Int.ofNat 0)), (7, U (Int.ofNat 0)), (8, U (47 : Nat)), (9, U (3276800000 : Nat)), (10, U (0 : Nat)), (11, U u), (13, U v), (14, U (0 : Nat)), (15, U (u / 3276800000 : Nat)), (16, U (u % 3276800000 : Nat))]) (fun _ => []) (fun _ => 0) ?_ ()
   intro _
   conv => whnf
   have t8 : iz ((3276800000 : Nat) : Int) = false := iz_u (by decide)
   repeat' ((first | refine bt ?_ | refine bf ?_ | refine vb_f (d_z2 _ _ _) ?_ | refine vl ?_ | fail) <;> conv => whnf)
   obtain ⟨w, hw⟩ : ∃ w : Nat, u % 3276800000 * 4294967296 + v = w := ⟨_, rfl⟩
   have hwb := d_w u v w hvb hw
   have e1 := d_un u v hub hvb
   rw [hw] at e1
   refine vloop_eq2 (fr' := [(2, U (14073748835532800000 : Nat)), (6, U (Int.ofNat 0)), (7, U (Int.ofNat 0)), (8, U (47 : Nat)), (9, U (3276800000 : Nat)), (10, U (0 : Nat)), (14, U (0 : Nat)), (15, U (u / 3276800000 : Nat)), (16, U (w % 3276800000 : Nat)), (17, U w), (18, U (w / 3276800000 : Nat))]) (h' := []) ?_ rfl ?_
   · rw [e1, d_q w hwb, d_r w hwb]
   have z3 := d_z1 w hwb
   refine vloop_by (σ := Unit) (fun _ => [(2, U (14073748835532800000 : Nat)), (6, U (Int.ofNat 0)), (7, U (Int.ofNat 0)), (8, U (47 : Nat)), (9, U (3276800000 : Nat)), (10, U (0 : Nat)), (14, U (0 : Nat)), (15, U (u / 3276800000 : Nat)), (16, U (w % 3276800000 : Nat)), (17, U w), (18, U (w / 3276800000 : Nat))]) (fun _ => []) (fun _ => 0) ?_ ()
   intro _
   conv => whnf
   repeat' ((first | refine bt ?_ | refine bf ?_ | refine vb_f (d_z2 0 _ _) ?_ | refine vl ?_ | fail) <;> conv => whnf)
   obtain ⟨f1, f2⟩ := d_fin hi lo u v w hh hl hu hv hw
   have e3 := d_end (u / 3276800000) (w / 3276800000) 0 (d_q1 u hub) (d_q1 w hwb)
   refine ⟨?_, rfl⟩
   rw [e3, d_rem w hwb, d_shr, f1, f2]
end Go.Proofs.YtkljckbaenbjeaaGreatDoor.Ab
namespace Go.Proofs.YtkljckbaenbjeaaGreatDoor.Ab
open Go
set_option linter.unusedSimpArgs false
set_option maxRecDepth 100000
set_option linter.unusedVariables false
set_option maxHeartbeats 4000000
theorem wi {x : Int} : IntKind.wrap .i64 x = if x % 18446744073709551616 ≥ 9223372036854775808 then x % 18446744073709551616 - 18446744073709551616 else x % 18446744073709551616 := by
 show (if (true && decide (x % 18446744073709551616 ≥ 9223372036854775808)) = true then x % 18446744073709551616 - 18446744073709551616 else x % 18446744073709551616) = _
 by_cases h : x % 18446744073709551616 ≥ 9223372036854775808 <;> simp [h]
theorem neg_cast (n : Nat) (h : n ≤ 4611686018427387904) : icast .i64 (isub .u64 0 (n : Int)) = -(n : Int) := by
 unfold icast isub
 rw [wu, wi]
 split <;> omega
theorem pos_cast (n : Nat) (h : n ≤ 4611686018427387904) : icast .i64 (n : Int) = (n : Int) := by
 unfold icast
 rw [wi]
 split <;> omega
theorem mul_sign (a b : Int) : a * b = if decide (a < 0) = decide (b < 0) then ((a.natAbs * b.natAbs : Nat) : Int) else -((a.natAbs * b.natAbs : Nat) : Int) := by
 rw [Int.natCast_mul]
 have ha : a = (a.natAbs : Int) ∧ ¬ a < 0 ∨ a = -(a.natAbs : Int) ∧ a < 0 := by omega
 have hb : b = (b.natAbs : Int) ∧ ¬ b < 0 ∨ b = -(b.natAbs : Int) ∧ b < 0 := by omega
 generalize (a.natAbs : Int) = A at *
 generalize (b.natAbs : Int) = B at *
 rcases ha with ⟨ea, ha⟩ | ⟨ea, ha⟩ <;> rcases hb with ⟨eb, hb⟩ | ⟨eb, hb⟩
 · rw [decide_eq_false ha, decide_eq_false hb, if_pos rfl, ea, eb]
 · rw [decide_eq_false ha, decide_eq_true hb, if_neg (by decide), ea, eb, Int.mul_neg]
 · rw [decide_eq_true ha, decide_eq_false hb, if_neg (by decide), ea, eb, Int.neg_mul]
 · rw [decide_eq_true ha, decide_eq_true hb, if_pos rfl, ea, eb, Int.neg_mul_neg]
theorem below_d (a b : Int) : (!(!ilt a (Int.ofNat 0) == ilt b (Int.ofNat 0)) == ilt 100000 (Int.ofNat 0)) = !(decide (decide (a < 0) = decide (b < 0))) := by
 have t3 : ilt 100000 (Int.ofNat 0) = false := by rw [ilt_f]; decide
 rw [t3, ilt_d, ilt_d]
 show (!(!decide (a < 0) == decide (b < 0)) == false) = _
 cases decide (a < 0) <;> cases decide (b < 0) <;> rfl
theorem mulDiv_ok (a b : Int) (h1 : -68719476736 ≤ a) (h2 : a ≤ 68719476736) (h3 : -1073741824 ≤ b) (h4 : b ≤ 1073741824) :
 Pur F0 122 [I a, I b, I 100000] [] .no (.ret (.tup [I (a * b / 100000), I 0])) .no := by
 refine pur_code (cf := cfn Tryz.f122) (by kernel_rfl) ?_
 conv => arg 3; reduce
 conv => whnf
 have s1 := size_ok a (by omega) (by omega)
 have s2 := size_ok b (by omega) (by omega)
 have s3 := size_ok 100000 (by omega) (by omega)
 have m := mul64_ok a.natAbs b.natAbs (by omega) (by omega)
 have hx : a.natAbs * b.natAbs ≤ 68719476736 * 1073741824 := Nat.mul_le_mul (by omega) (by omega)
 obtain ⟨x, hxe⟩ : ∃ x : Nat, a.natAbs * b.natAbs = x := ⟨_, rfl⟩
 rw [hxe] at m hx
 have d := div64_ok (x / 18446744073709551616) (x % 18446744073709551616) (by omega) (by omega)
 have hN : x / 18446744073709551616 * 18446744073709551616 + x % 18446744073709551616 = x := by omega
 rw [hN] at d
 have t1 : ieq 100000 (Int.ofNat 0) = false := by rw [ieq_f]; decide
 have t2 : ile (((100000 : Int).natAbs : Nat) : Int) ((x / 18446744073709551616 : Nat) : Int) = false := by rw [ile_f]; show ((x / 18446744073709551616 : Nat) : Int) < ((100000 : Nat) : Int); omega
 have t4 : ile (Int.ofNat 9223372036854775808) ((x / 100000 : Nat) : Int) = false := by rw [ile_f]; simp only [Int.ofNat_eq_natCast]; omega
 have t5 : ile ((x / 100000 : Nat) : Int) (Int.ofNat 9223372036854775808) = true := by rw [ile_t]; simp only [Int.ofNat_eq_natCast]; omega
 have hm := mul_sign a b
 have hbe := below_d a b
 rw [hxe] at hm
 have hq : x / 100000 ≤ 1000000000000000 := by omega
 by_cases hs : decide (a < 0) = decide (b < 0)
 · rw [if_pos hs] at hm
   rw [decide_eq_true hs] at hbe
   repeat' ((first | refine bt ?_ | refine bf ?_ | refine vb_f hbe ?_ | refine vpur_i s1 ?_ | refine vpur_i s2 ?_ | refine vpur_i s3 ?_ | refine vpur_i m ?_ | refine vpur_i d ?_ | refine vl ?_ | refine vb_i (fun h => ?_) (fun h => ?_) | fail) <;> conv => whnf)
   refine ⟨congrArg CR.ret (congrArg AV.tup (cons_eq (I_eq ?_) rfl)), rfl⟩
   rw [hm, pos_cast _ (by omega)]; omega
 · rw [if_neg hs] at hm
   rw [decide_eq_false hs] at hbe
   repeat' ((first | refine bt ?_ | refine bf ?_ | refine vb_t hbe ?_ | refine vpur_i s1 ?_ | refine vpur_i s2 ?_ | refine vpur_i s3 ?_ | refine vpur_i m ?_ | refine vpur_i d ?_ | refine vl ?_ | refine vb_i (fun h => ?_) (fun h => ?_) | fail) <;> conv => whnf)
   · refine ⟨congrArg CR.ret (congrArg AV.tup (cons_eq (I_eq ?_) rfl)), rfl⟩
     rw [ilt_t] at h
     simp only [Int.ofNat_eq_natCast] at h
     have e1 : (x / 100000 + 1) % 18446744073709551616 = x / 100000 + 1 := by omega
     rw [show Int.ofNat 1 = ((1 : Nat) : Int) from rfl, u_add, e1, hm, neg_cast _ (by omega)]; omega
   · refine ⟨congrArg CR.ret (congrArg AV.tup (cons_eq (I_eq ?_) rfl)), rfl⟩
     rw [ilt_f] at h
     simp only [Int.ofNat_eq_natCast] at h
     rw [hm, neg_cast _ (by omega)]; omega
def pct (m b : Int) : Int × Int := if isPx b = true ∧ -1073741824 ≤ m ∧ m ≤ 1073741824 then (if isPx (b * m / 100000) = true then (b * m / 100000, 0) else (0, 10)) else (0, 2)
theorem percent_ok (m b : Int) : Pur F0 96 [I m, I b] [] .no (.ret (.tup [I (pct m b).1, I (pct m b).2])) .no := by
 refine pur_code (cf := cfn Tryz.f96) (by kernel_rfl) ?_
 conv => arg 3; reduce
 conv => whnf
 by_cases hc : isPx b = true ∧ -1073741824 ≤ m ∧ m ≤ 1073741824
 · have hp : pct m b = if isPx (b * m / 100000) = true then (b * m / 100000, 0) else (0, 10) := if_pos hc
   obtain ⟨h1, h2, h3⟩ := hc
   have hb : -68719476736 ≤ b ∧ b ≤ 68719476736 := by simpa [isPx] using h1
   have d := mulDiv_ok b m hb.1 hb.2 h2 h3
   have t1 : (!isPx b) = false := by rw [h1]; rfl
   have t2 : ilt m (Int.negSucc 1073741823) = false := by rw [ilt_f]; omega
   have t3 : ilt (Int.ofNat 1073741824) m = false := by rw [ilt_f]; simp only [Int.ofNat_eq_natCast]; omega
   have t4 : (!ieq 0 (Int.ofNat 0)) = false := by rw [ieq_d]; rfl
   by_cases h4 : isPx (b * m / 100000) = true
   · have t5 : (!isPx (b * m / 100000)) = false := by rw [h4]; rfl
     rw [if_pos h4] at hp
     repeat' ((first | refine bt ?_ | refine bf ?_ | refine vpur_i (fixedIs_ok _) ?_ | refine vpur_i d ?_ | refine vl ?_ | fail) <;> conv => whnf)
     rw [hp]; exact ⟨rfl, rfl⟩
   · have t5 : (!isPx (b * m / 100000)) = true := by simpa using h4
     rw [if_neg h4] at hp
     repeat' ((first | refine bt ?_ | refine bf ?_ | refine vpur_i (fixedIs_ok _) ?_ | refine vpur_i d ?_ | refine vl ?_ | fail) <;> conv => whnf)
     rw [hp]; exact ⟨rfl, rfl⟩
 · have hp : pct m b = (0, 2) := if_neg hc
   repeat' ((first | refine bt ?_ | refine bf ?_ | refine vpur_i (fixedIs_ok _) ?_ | refine vl ?_ | refine vb_i (fun h => ?_) (fun h => ?_) | fail) <;> conv => whnf)
   all_goals first
    | (rw [hp]; exact ⟨rfl, rfl⟩)
    | (exfalso
       simp only [ilt_f, Int.ofNat_eq_natCast, Bool.not_eq_false'] at *
       apply hc
       refine ⟨by assumption, by omega, by omega⟩)
end Go.Proofs.YtkljckbaenbjeaaGreatDoor.Ab
namespace Go.Proofs.YtkljckbaenbjeaaGreatDoor.Ab
open Go
set_option linter.unusedSimpArgs false
set_option maxRecDepth 100000
set_option linter.unusedVariables false
set_option maxHeartbeats 4000000
theorem refIs_ok (n : Int) : Pur F0 146 [I n] [] .no (.ret (B (isPx n))) .no := by
 refine pur_code (cf := cfn Tryz.f146) (by kernel_rfl) ?_
 conv => arg 3; reduce
 conv => whnf
 repeat' ((first | refine bt ?_ | refine bf ?_ | refine vl ?_ | refine vb_i (fun h => ?_) (fun h => ?_) | fail) <;> conv => whnf)
 all_goals (refine ⟨?_, rfl⟩)
 all_goals (simp_all [isPx, ile_d] <;> omega)
theorem rsize_ok (n : Int) (h1 : -1000000000000 ≤ n) (h2 : n ≤ 1000000000000) : Pur F0 160 [I n] [] .no (.ret (U n.natAbs)) .no := by
 refine pur_code (cf := cfn Tryz.f160) (by kernel_rfl) ?_
 conv => arg 3; reduce
 conv => whnf
 repeat' ((first | refine bt ?_ | refine bf ?_ | refine vl ?_ | refine vb_i (fun h => ?_) (fun h => ?_) | fail) <;> conv => whnf)
 all_goals (refine ⟨congrArg CR.ret (U_eq ?_), rfl⟩)
 · have e : isub .u64 (Int.ofNat 0) (icast .u64 n) = isub .u64 0 (icast .u64 n) := rfl
   rw [e, u_neg h1 h2]; rw [ilt_t] at *; simp only [Int.ofNat_eq_natCast] at *; omega
 · rw [ilt_f] at *; simp only [Int.ofNat_eq_natCast] at *; rw [u_cast h1 h2 (by omega)]; omega
def wideA (w : Nat) : AV := .agg [U (w / 18446744073709551616 : Nat), U (w % 18446744073709551616 : Nat)]
abbrev wideL (w : Nat) : List AV := [U (w / 18446744073709551616 : Nat), U (w % 18446744073709551616 : Nat)]
theorem agg2_eq {a b c d : Int} (h : a = c) (k : b = d) : AV.agg [U a, U b] = .agg [U c, U d] := by rw [h, k]
theorem fix2_eq {a b c d : Int} {o : Own} {t : Nat} (h : a = c) (k : b = d) : (⟨o, t, .fix [U a, U b]⟩ : Obj) = ⟨o, t, .fix [U c, U d]⟩ := by rw [h, k]
theorem n_ofn (n : Nat) : Int.ofNat n = ((n : Nat) : Int) := rfl
theorem tw_hi (w one : Nat) (hw : 2 * w + one < 340282366920938463463374607431768211456) (h1 : one ≤ 1) :
 iadd .u64 (imul .u64 (Int.ofNat 2) ((w / 18446744073709551616 : Nat) : Int)) (iquo .u64 ((w % 18446744073709551616 : Nat) : Int) (Int.ofNat 9223372036854775808)) = (((2 * w + one) / 18446744073709551616 : Nat) : Int) := by
 rw [n_ofn, n_ofn, u_mul, u_quo (by omega), u_add]
 have : (2 * (w / 18446744073709551616) % 18446744073709551616 + w % 18446744073709551616 / 9223372036854775808) % 18446744073709551616 = (2 * w + one) / 18446744073709551616 := by omega
 rw [this]
theorem tw_lo (w one : Nat) (h1 : one ≤ 1) :
 iadd .u64 (imul .u64 (Int.ofNat 2) ((w % 18446744073709551616 : Nat) : Int)) (one : Int) = (((2 * w + one) % 18446744073709551616 : Nat) : Int) := by
 rw [n_ofn, u_mul, u_add]
 have : (2 * (w % 18446744073709551616) % 18446744073709551616 + one) % 18446744073709551616 = (2 * w + one) % 18446744073709551616 := by omega
 rw [this]
theorem twice_ok (w one : Nat) (hw : 2 * w + one < 340282366920938463463374607431768211456) (h1 : one ≤ 1) : Pur F0 175 [wideA w, U one] [] .no (.ret (wideA (2 * w + one))) .no := by
 refine pur_code (cf := cfn Tryz.f175) (by kernel_rfl) ?_
 conv => arg 3; reduce
 conv => whnf
 have t : iz (Int.ofNat 9223372036854775808) = false := by rw [iz_f]; decide
 repeat' ((first | refine bt ?_ | refine bf ?_ | refine vl ?_ | refine vb_i (fun h => ?_) (fun h => ?_) | fail) <;> conv => whnf)
 exact ⟨congrArg CR.ret (agg2_eq (tw_hi w one hw h1) (tw_lo w one h1)), rfl⟩
theorem pl_lo (w n : Nat) : iadd .u64 ((w % 18446744073709551616 : Nat) : Int) (n : Int) = (((w + n) % 18446744073709551616 : Nat) : Int) := by
 rw [u_add]
 have : (w % 18446744073709551616 + n) % 18446744073709551616 = (w + n) % 18446744073709551616 := by omega
 rw [this]
theorem plus_ok (w n : Nat) (hw : w + n < 340282366920938463463374607431768211456) (h1 : n < 18446744073709551616) : Pur F0 161 [wideA w, U n] [] .no (.ret (wideA (w + n))) .no := by
 refine pur_code (cf := cfn Tryz.f161) (by kernel_rfl) ?_
 conv => arg 3; reduce
 conv => whnf
 repeat' ((first | refine bt ?_ | refine bf ?_ | refine vl ?_ | refine vb_i (fun h => ?_) (fun h => ?_) | fail) <;> conv => whnf)
 · refine ⟨congrArg CR.ret (agg2_eq ?_ (pl_lo w n)), rfl⟩
   rw [pl_lo, ilt_t] at h
   rw [n_ofn, u_add]
   have : (w / 18446744073709551616 + 1) % 18446744073709551616 = (w + n) / 18446744073709551616 := by omega
   rw [this]
 · refine ⟨congrArg CR.ret (agg2_eq ?_ (pl_lo w n)), rfl⟩
   rw [pl_lo, ilt_f] at h
   have : w / 18446744073709551616 = (w + n) / 18446744073709551616 := by omega
   rw [this]
theorem top_bit (b : Nat) (i : Nat) (hi : i < 64) : 9223372036854775808 / 2 ^ i = 2 ^ (63 - i) ∧ b / 2 ^ (64 - (i + 1)) = 2 * (b / 2 ^ (64 - i)) + b / 2 ^ (63 - i) % 2 := by
 constructor
 · rw [show 9223372036854775808 = 2 ^ 63 from rfl, Nat.pow_div (by omega) (by decide)]
 · have e1 : 64 - (i + 1) = 63 - i := by omega
   have e2 : b / 2 ^ (64 - i) = b / 2 ^ (63 - i) / 2 := by
    rw [Nat.div_div_eq_div_mul, show 64 - i = (63 - i) + 1 by omega, Nat.pow_succ]
   rw [e1, e2]
   omega
theorem prod_lt (a b i : Nat) (ha : a < 18446744073709551616) (hb : b < 18446744073709551616) : a * (b / 2 ^ i) ≤ 18446744073709551615 * 18446744073709551615 := by
 have := Nat.div_le_self b (2 ^ i)
 exact Nat.mul_le_mul (by omega) (by omega)
theorem half_pow (i : Nat) : 9223372036854775808 / 2 ^ i / 2 = 9223372036854775808 / 2 ^ (i + 1) := by rw [Nat.div_div_eq_div_mul, Nat.pow_succ]
theorem pow_le63 (i : Nat) : 9223372036854775808 / 2 ^ i ≤ 9223372036854775808 := Nat.div_le_self _ _
theorem product_ok (a b : Nat) (ha : a < 18446744073709551616) (hb : b < 18446744073709551616) : Pur F0 159 [U a, U b] [] .no (.ret (wideA (a * b))) .no := by
 refine pur_code (cf := cfn Tryz.f159) (by kernel_rfl) ?_
 conv => arg 3; reduce
 conv => whnf
 refine vloop_eq2 (fr' := [(0, U a), (1, U b), (4, .ptr 0 0), (5, .ptr 1 0), (6, U (9223372036854775808 / 2 ^ 0 : Nat)), (7, I (0 : Nat))])
  (h' := [⟨.mine, 178, .fix [U (Int.ofNat 0), U (Int.ofNat 0)]⟩, ⟨.mine, 178, .fix (wideL (a * (b / 2 ^ (64 - 0))))⟩]) rfl ?_ ?_
 · have : a * (b / 2 ^ (64 - 0)) = 0 := by rw [Nat.div_eq_of_lt (by simpa using hb), Nat.mul_zero]
   rw [this]
   rfl
 refine vloop_by (σ := { i : Nat // i ≤ 64 }) (fun i => [(0, U a), (1, U b), (4, .ptr 0 0), (5, .ptr 1 0), (6, U (9223372036854775808 / 2 ^ i.1 : Nat)), (7, I i.1)])
  (fun i => [⟨.mine, 178, .fix [U (Int.ofNat 0), U (Int.ofNat 0)]⟩, ⟨.mine, 178, .fix (wideL (a * (b / 2 ^ (64 - i.1))))⟩]) (fun i => 64 - i.1) ?_ ⟨0, by decide⟩
 rintro ⟨i, hi⟩
 have hl := prod_lt a b (64 - i) ha hb
 have hl2 := prod_lt a b (64 - (i + 1)) ha hb
 obtain ⟨W, hW⟩ : ∃ W : Nat, a * (b / 2 ^ (64 - i)) = W := ⟨_, rfl⟩
 simp only [hW]
 rw [hW] at hl
 conv => whnf
 refine vb_i (fun h => ?_) (fun h => ?_) <;> conv => whnf
 · have hlt : i < 64 := by (first | omega | (simp only [ilt_t, ilt_f, ile_t, ile_f, ieq_t, ieq_f, ofn, List.length_map, Bool.not_eq_true', Bool.not_eq_false'] at *; omega))
   obtain ⟨k1, k2⟩ := top_bit b i hlt
   have hb2 : a * (b / 2 ^ (64 - (i + 1))) = 2 * W + a * (b / 2 ^ (63 - i) % 2) := by
    rw [k2, Nat.mul_add, ← hW, Nat.mul_left_comm]
   have tw := twice_ok W 0 (by omega) (by omega)
   have hz : iz ((9223372036854775808 / 2 ^ i : Nat) : Int) = false := iz_u (by rw [k1]; exact Nat.ne_of_gt (Nat.two_pow_pos _))
   have hz2 : iz (Int.ofNat 2) = false := by rw [iz_f]; decide
   have e2 : irem (iquo .u64 (b : Int) ((9223372036854775808 / 2 ^ i : Nat) : Int)) (Int.ofNat 2) = ((b / 2 ^ (63 - i) % 2 : Nat) : Int) := by
    rw [u_quo hb, n_ofn, u_rem, k1]
   have hn : iquo .u64 ((9223372036854775808 / 2 ^ i : Nat) : Int) (Int.ofNat 2) = ((9223372036854775808 / 2 ^ (i + 1) : Nat) : Int) := by
    have := pow_le63 i
    rw [n_ofn, u_quo (by omega), half_pow]
   rcases Nat.mod_two_eq_zero_or_one (b / 2 ^ (63 - i)) with h2 | h2
   · have q : ieq (irem (iquo .u64 (b : Int) ((9223372036854775808 / 2 ^ i : Nat) : Int)) (Int.ofNat 2)) (Int.ofNat 1) = false := by rw [e2, h2, ieq_f]; decide
     repeat' ((first | refine bt ?_ | refine bf ?_ | refine vpur_i tw ?_ | refine vl ?_ | fail) <;> conv => whnf)
     rw [h2, Nat.mul_zero] at hb2
     refine ⟨⟨i + 1, hlt⟩, by simp only; omega, cons_eq rfl (cons_eq rfl (cons_eq rfl (cons_eq rfl (cons_eq (slot_eq (U_eq hn)) (cons_eq (slot_eq (I_eq (iadd_one (i := i) (by omega)))) rfl))))), cons_eq rfl (cons_eq ?_ rfl), rfl, rfl⟩
     simp only [hb2]
   · have q : ieq (irem (iquo .u64 (b : Int) ((9223372036854775808 / 2 ^ i : Nat) : Int)) (Int.ofNat 2)) (Int.ofNat 1) = true := by rw [e2, h2, ieq_t]; rfl
     rw [h2, Nat.mul_one] at hb2
     have pl := plus_ok (2 * W + 0) a (by omega) ha
     repeat' ((first | refine bt ?_ | refine bf ?_ | refine vpur_i tw ?_ | refine vpur_i pl ?_ | refine vl ?_ | fail) <;> conv => whnf)
     refine ⟨⟨i + 1, hlt⟩, by simp only; omega, cons_eq rfl (cons_eq rfl (cons_eq rfl (cons_eq rfl (cons_eq (slot_eq (U_eq hn)) (cons_eq (slot_eq (I_eq (iadd_one (i := i) (by omega)))) rfl))))), cons_eq rfl (cons_eq ?_ rfl), rfl, rfl⟩
     simp only [hb2, Nat.add_zero]
 · have : i = 64 := by (first | omega | (simp only [ilt_t, ilt_f, ile_t, ile_f, ieq_t, ieq_f, ofn, List.length_map, Bool.not_eq_true', Bool.not_eq_false'] at *; omega))
   subst this
   have : a * b = W := by rw [← hW]; simp
   rw [this]
   repeat' ((first | refine bt ?_ | refine bf ?_ | refine vl ?_ | fail) <;> conv => whnf)
   exact ⟨rfl, rfl⟩
end Go.Proofs.YtkljckbaenbjeaaGreatDoor.Ab
namespace Go.Proofs.YtkljckbaenbjeaaGreatDoor.Ab
open Go
set_option linter.unusedSimpArgs false
set_option maxRecDepth 100000
set_option linter.unusedVariables false
set_option maxHeartbeats 4000000
theorem bit_hi (w i : Nat) (hi : 64 ≤ i) : w / 18446744073709551616 / 2 ^ (i - 64) = w / 2 ^ i := by
 rw [Nat.div_div_eq_div_mul, show 18446744073709551616 = 2 ^ 64 from rfl, ← Nat.pow_add, show 64 + (i - 64) = i by omega]
theorem bit_lo (w i : Nat) (hi : i < 64) : w % 18446744073709551616 / 2 ^ i % 2 = w / 2 ^ i % 2 := by
 obtain ⟨h, l, e1, e2⟩ : ∃ h l : Nat, w = 18446744073709551616 * h + l ∧ w % 18446744073709551616 = l := ⟨w / 18446744073709551616, _, by omega, rfl⟩
 rw [e2, e1, show 18446744073709551616 = 2 ^ i * 2 ^ (64 - i) by rw [← Nat.pow_add, show i + (64 - i) = 64 by omega], Nat.mul_assoc, Nat.mul_add_div (Nat.two_pow_pos _), show 64 - i = (63 - i) + 1 by omega, Nat.pow_succ]
 rw [show 2 ^ (63 - i) * 2 * h = 2 * (2 ^ (63 - i) * h) by rw [Nat.mul_comm (2 ^ (63 - i)) 2, Nat.mul_assoc]]
 omega
theorem down_one {k : Nat} (h1 : 1 ≤ k) (h : k < 9223372036854775807) : isub .i64 ((k : Int) - 1) (Int.ofNat 1) = ((k - 1 : Nat) : Int) - 1 := by rw [isub64] <;> simp <;> omega
theorem half_two (H j : Nat) : H / 2 ^ j / 2 = H / 2 ^ (j + 1) := by rw [Nat.div_div_eq_div_mul, Nat.pow_succ]
theorem div_lt_u (H j : Nat) (h : H < 18446744073709551616) : H / 2 ^ j < 18446744073709551616 := Nat.lt_of_le_of_lt (Nat.div_le_self _ _) h
theorem q_step (V t : Nat) (ht : t ≤ 1) : (2 * V + t) / 100000 = 2 * (V / 100000) + (if 100000 ≤ 2 * (V % 100000) + t then 1 else 0) ∧ (2 * V + t) % 100000 = (if 100000 ≤ 2 * (V % 100000) + t then 2 * (V % 100000) + t - 100000 else 2 * (V % 100000) + t) := by
 split <;> constructor <;> omega
theorem q_sub (r2 : Nat) (h : 100000 ≤ r2) (h2 : r2 < 200000) : ∃ r3 : Nat, r2 - 100000 = r3 ∧ isub .u64 ((r2 % 18446744073709551616 : Nat) : Int) ((100000 : Nat) : Int) = ((r3 % 18446744073709551616 : Nat) : Int) ∧ r3 / 18446744073709551616 = 0 := by
 refine ⟨r2 - 100000, rfl, ?_, by omega⟩
 have e : r2 % 18446744073709551616 - 100000 = (r2 - 100000) % 18446744073709551616 := by omega
 rw [u_sub (by omega) (by omega), e]
theorem quotient_ok (w : Nat) (hw : w < 340282366920938463463374607431768211456) : Pur F0 158 [wideA w, U (100000 : Nat)] [] .no (.ret (.tup [wideA (w / 100000), U (w % 100000 : Nat)])) .no := by
 refine pur_code (cf := cfn Tryz.f158) (by kernel_rfl) ?_
 conv => arg 3; reduce
 conv => whnf
 refine vloop_eq2 (fr' := [(1, U (100000 : Nat)), (2, .ptr 0 0), (4, .ptr 1 0), (5, U (Int.ofNat 0)), (6, .ptr 2 0), (7, .ptr 3 0), (8, I (((128 : Nat) : Int) - 1))])
  (h' := [⟨.mine, 178, .fix (wideL w)⟩, ⟨.mine, 178, .fix [U (Int.ofNat 0), U (Int.ofNat 0)]⟩, ⟨.mine, 178, .fix (wideL (w / 2 ^ 128 / 100000))⟩, ⟨.mine, 178, .fix (wideL (w / 2 ^ 128 % 100000))⟩]) rfl ?_ ?_
 · rw [Nat.div_eq_of_lt (b := 2 ^ 128) (by simpa using hw)]
   rfl
 refine vloop_by (σ := { k : Nat // k ≤ 128 }) (fun k => [(1, U (100000 : Nat)), (2, .ptr 0 0), (4, .ptr 1 0), (5, U (Int.ofNat 0)), (6, .ptr 2 0), (7, .ptr 3 0), (8, I ((k.1 : Int) - 1))])
  (fun k => [⟨.mine, 178, .fix (wideL w)⟩, ⟨.mine, 178, .fix [U (Int.ofNat 0), U (Int.ofNat 0)]⟩, ⟨.mine, 178, .fix (wideL (w / 2 ^ k.1 / 100000))⟩, ⟨.mine, 178, .fix (wideL (w / 2 ^ k.1 % 100000))⟩]) (fun k => k.1) ?_ ⟨128, by decide⟩
 rintro ⟨k, hk⟩
 simp only
 have hz2 : iz (Int.ofNat 2) = false := by rw [iz_f]; decide
 have hwk : w / 2 ^ k < 340282366920938463463374607431768211456 := Nat.lt_of_le_of_lt (Nat.div_le_self _ _) hw
 conv => whnf
 refine vb_i (fun h => ?_) (fun h => ?_) <;> conv => whnf
 · have hk1 : 1 ≤ k := by (first | omega | (simp only [ilt_t, ilt_f, ile_t, ile_f, ieq_t, ieq_f, ofn, List.length_map, Bool.not_eq_true', Bool.not_eq_false'] at *; omega))
   have hkb : k - 1 ≤ 128 := by omega
   have hkm : k - 1 < k := by omega
   have hdn := down_one hk1 (by omega)
   have hV : w / 2 ^ (k - 1) = 2 * (w / 2 ^ k) + w / 2 ^ (k - 1) % 2 := by
    have : w / 2 ^ k = w / 2 ^ (k - 1) / 2 := by rw [half_two, show k - 1 + 1 = k by omega]
    omega
   refine vb_i (fun h => ?_) (fun h => ?_) <;> conv => whnf
   · have hlt : k - 1 < 64 := by (first | omega | (simp only [ilt_t, ilt_f, ile_t, ile_f, ieq_t, ieq_f, ofn, List.length_map, Bool.not_eq_true', Bool.not_eq_false'] at *; omega))
     have hH : w % 18446744073709551616 < 18446744073709551616 := Nat.mod_lt _ (by decide)
     have hbit : w % 18446744073709551616 / 2 ^ (k - 1) % 2 = w / 2 ^ (k - 1) % 2 := bit_lo w (k - 1) hlt
     refine vloop_eq2 (fr' := [(1, U (100000 : Nat)), (2, .ptr 0 0), (4, .ptr 1 0), (5, U (Int.ofNat 0)), (6, .ptr 2 0), (7, .ptr 3 0), (8, I ((k : Int) - 1)), (10, U ((w % 18446744073709551616) / 2 ^ 0 : Nat)), (11, I ((k - 1) : Nat)), (12, I (0 : Nat))])
      (h' := [⟨.mine, 178, .fix (wideL w)⟩, ⟨.mine, 178, .fix [U (Int.ofNat 0), U (Int.ofNat 0)]⟩, ⟨.mine, 178, .fix (wideL (w / 2 ^ k / 100000))⟩, ⟨.mine, 178, .fix (wideL (w / 2 ^ k % 100000))⟩]) ?_ rfl ?_
     · exact cons_eq rfl (cons_eq rfl (cons_eq rfl (cons_eq rfl (cons_eq rfl (cons_eq rfl (cons_eq rfl (cons_eq (slot_eq (U_eq (by simp))) (cons_eq (slot_eq (I_eq (by omega))) rfl))))))))
     refine vloop_by (σ := { j : Nat // j ≤ (k - 1) }) (fun j => [(1, U (100000 : Nat)), (2, .ptr 0 0), (4, .ptr 1 0), (5, U (Int.ofNat 0)), (6, .ptr 2 0), (7, .ptr 3 0), (8, I ((k : Int) - 1)), (10, U ((w % 18446744073709551616) / 2 ^ j.1 : Nat)), (11, I ((k - 1) : Nat)), (12, I j.1)])
      (fun _ => [⟨.mine, 178, .fix (wideL w)⟩, ⟨.mine, 178, .fix [U (Int.ofNat 0), U (Int.ofNat 0)]⟩, ⟨.mine, 178, .fix (wideL (w / 2 ^ k / 100000))⟩, ⟨.mine, 178, .fix (wideL (w / 2 ^ k % 100000))⟩]) (fun j => (k - 1) - j.1) ?_ ⟨0, Nat.zero_le _⟩
     rintro ⟨j, hj⟩
     conv => whnf
     refine vb_i (fun h => ?_) (fun h => ?_) <;> conv => whnf
     · have hlt : j < (k - 1) := by (first | omega | (simp only [ilt_t, ilt_f, ile_t, ile_f, ieq_t, ieq_f, ofn, List.length_map, Bool.not_eq_true', Bool.not_eq_false'] at *; omega))
       have e : iquo .u64 (((w % 18446744073709551616) / 2 ^ j : Nat) : Int) (Int.ofNat 2) = (((w % 18446744073709551616) / 2 ^ (j + 1) : Nat) : Int) := by rw [n_ofn, u_quo (div_lt_u _ _ hH), half_two]
       repeat' ((first | refine bt ?_ | refine bf ?_ | refine vl ?_ | fail) <;> conv => whnf)
       exact ⟨⟨j + 1, hlt⟩, by simp only; omega, cons_eq rfl (cons_eq rfl (cons_eq rfl (cons_eq rfl (cons_eq rfl (cons_eq rfl (cons_eq rfl (cons_eq (slot_eq (U_eq e)) (cons_eq rfl (cons_eq (slot_eq (I_eq (iadd_one (i := j) (by omega)))) rfl))))))))), rfl, rfl, rfl⟩
     · have hje : j = (k - 1) := by (first | omega | (simp only [ilt_t, ilt_f, ile_t, ile_f, ieq_t, ieq_f, ofn, List.length_map, Bool.not_eq_true', Bool.not_eq_false'] at *; omega))
       subst hje
       have e1 : irem (((w % 18446744073709551616) / 2 ^ (k - 1) : Nat) : Int) (Int.ofNat 2) = ((w / 2 ^ (k - 1) % 2 : Nat) : Int) := by rw [n_ofn, u_rem, hbit]
       rw [e1]
       have tr := twice_ok (w / 2 ^ k % 100000) (w / 2 ^ (k - 1) % 2) (by omega) (by omega)
       have hr2 : 2 * (w / 2 ^ k % 100000) + w / 2 ^ (k - 1) % 2 < 200000 := by omega
       obtain ⟨r2, hr2e⟩ : ∃ r2 : Nat, 2 * (w / 2 ^ k % 100000) + w / 2 ^ (k - 1) % 2 = r2 := ⟨_, rfl⟩
       rw [hr2e] at tr hr2
       have q1 : ilt (Int.ofNat 0) ((r2 / 18446744073709551616 : Nat) : Int) = false := by rw [ilt_f, show r2 / 18446744073709551616 = 0 by omega]; decide
       have eq1 := (q_step (w / 2 ^ k) (w / 2 ^ (k - 1) % 2) (by omega)).1
       have eq2 := (q_step (w / 2 ^ k) (w / 2 ^ (k - 1) % 2) (by omega)).2
       rw [← hV, hr2e] at eq1 eq2
       by_cases hge : 100000 ≤ r2
       · rw [if_pos hge] at eq1 eq2
         have q2 : ile ((100000 : Nat) : Int) ((r2 % 18446744073709551616 : Nat) : Int) = true := by rw [ile_t]; omega
         have tq := twice_ok (w / 2 ^ k / 100000) 1 (by omega) (by omega)
         obtain ⟨r3, g1, g2, g3⟩ := q_sub r2 hge hr2
         rw [g1] at eq2
         clear hge hr2 g1
         repeat' ((first | refine bt ?_ | refine bf ?_ | refine vpur_i tr ?_ | refine vpur_i tq ?_ | refine vl ?_ | fail) <;> conv => whnf)
         refine ⟨⟨k - 1, hkb⟩, hkm, cons_eq rfl (cons_eq rfl (cons_eq rfl (cons_eq rfl (cons_eq rfl (cons_eq rfl (cons_eq (slot_eq (I_eq hdn)) rfl)))))), cons_eq rfl (cons_eq rfl (cons_eq (fix2_eq ?_ ?_) (cons_eq (fix2_eq ?_ ?_) rfl))), rfl, rfl⟩
         · rw [eq1]
         · rw [eq1]
         · rw [eq2, g3]; rfl
         · rw [eq2]; exact g2
       · rw [if_neg hge] at eq1 eq2
         have q2 : ile ((100000 : Nat) : Int) ((r2 % 18446744073709551616 : Nat) : Int) = false := by rw [ile_f]; omega
         have tq := twice_ok (w / 2 ^ k / 100000) 0 (by omega) (by omega)
         repeat' ((first | refine bt ?_ | refine bf ?_ | refine vpur_i tr ?_ | refine vpur_i tq ?_ | refine vl ?_ | fail) <;> conv => whnf)
         refine ⟨⟨k - 1, hkb⟩, hkm, cons_eq rfl (cons_eq rfl (cons_eq rfl (cons_eq rfl (cons_eq rfl (cons_eq rfl (cons_eq (slot_eq (I_eq hdn)) rfl)))))), cons_eq rfl (cons_eq rfl (cons_eq (fix2_eq ?_ ?_) (cons_eq (fix2_eq ?_ ?_) rfl))), rfl, rfl⟩
         · rw [eq1]
         · rw [eq1]
         · rw [eq2]
         · rw [eq2]
   · have hge : 64 ≤ k - 1 := by (first | omega | (simp only [ilt_t, ilt_f, ile_t, ile_f, ieq_t, ieq_f, ofn, List.length_map, Bool.not_eq_true', Bool.not_eq_false'] at *; omega))
     have hH : w / 18446744073709551616 < 18446744073709551616 := by omega
     have hbit : w / 18446744073709551616 / 2 ^ (k - 1 - 64) % 2 = w / 2 ^ (k - 1) % 2 := by rw [bit_hi w (k - 1) hge]
     have e64 : isub .i64 ((k : Int) - 1) (Int.ofNat 64) = ((k - 1 - 64 : Nat) : Int) := by rw [isub64] <;> simp <;> omega
     refine vloop_eq2 (fr' := [(1, U (100000 : Nat)), (2, .ptr 0 0), (4, .ptr 1 0), (5, U (Int.ofNat 0)), (6, .ptr 2 0), (7, .ptr 3 0), (8, I ((k : Int) - 1)), (10, U ((w / 18446744073709551616) / 2 ^ 0 : Nat)), (11, I ((k - 1 - 64) : Nat)), (12, I (0 : Nat))])
      (h' := [⟨.mine, 178, .fix (wideL w)⟩, ⟨.mine, 178, .fix [U (Int.ofNat 0), U (Int.ofNat 0)]⟩, ⟨.mine, 178, .fix (wideL (w / 2 ^ k / 100000))⟩, ⟨.mine, 178, .fix (wideL (w / 2 ^ k % 100000))⟩]) ?_ rfl ?_
     · exact cons_eq rfl (cons_eq rfl (cons_eq rfl (cons_eq rfl (cons_eq rfl (cons_eq rfl (cons_eq rfl (cons_eq (slot_eq (U_eq (by simp))) (cons_eq (slot_eq (I_eq e64)) rfl))))))))
     refine vloop_by (σ := { j : Nat // j ≤ (k - 1 - 64) }) (fun j => [(1, U (100000 : Nat)), (2, .ptr 0 0), (4, .ptr 1 0), (5, U (Int.ofNat 0)), (6, .ptr 2 0), (7, .ptr 3 0), (8, I ((k : Int) - 1)), (10, U ((w / 18446744073709551616) / 2 ^ j.1 : Nat)), (11, I ((k - 1 - 64) : Nat)), (12, I j.1)])
      (fun _ => [⟨.mine, 178, .fix (wideL w)⟩, ⟨.mine, 178, .fix [U (Int.ofNat 0), U (Int.ofNat 0)]⟩, ⟨.mine, 178, .fix (wideL (w / 2 ^ k / 100000))⟩, ⟨.mine, 178, .fix (wideL (w / 2 ^ k % 100000))⟩]) (fun j => (k - 1 - 64) - j.1) ?_ ⟨0, Nat.zero_le _⟩
     rintro ⟨j, hj⟩
     conv => whnf
     refine vb_i (fun h => ?_) (fun h => ?_) <;> conv => whnf
     · have hlt : j < (k - 1 - 64) := by (first | omega | (simp only [ilt_t, ilt_f, ile_t, ile_f, ieq_t, ieq_f, ofn, List.length_map, Bool.not_eq_true', Bool.not_eq_false'] at *; omega))
       have e : iquo .u64 (((w / 18446744073709551616) / 2 ^ j : Nat) : Int) (Int.ofNat 2) = (((w / 18446744073709551616) / 2 ^ (j + 1) : Nat) : Int) := by rw [n_ofn, u_quo (div_lt_u _ _ hH), half_two]
       repeat' ((first | refine bt ?_ | refine bf ?_ | refine vl ?_ | fail) <;> conv => whnf)
       exact ⟨⟨j + 1, hlt⟩, by simp only; omega, cons_eq rfl (cons_eq rfl (cons_eq rfl (cons_eq rfl (cons_eq rfl (cons_eq rfl (cons_eq rfl (cons_eq (slot_eq (U_eq e)) (cons_eq rfl (cons_eq (slot_eq (I_eq (iadd_one (i := j) (by omega)))) rfl))))))))), rfl, rfl, rfl⟩
     · have hje : j = (k - 1 - 64) := by (first | omega | (simp only [ilt_t, ilt_f, ile_t, ile_f, ieq_t, ieq_f, ofn, List.length_map, Bool.not_eq_true', Bool.not_eq_false'] at *; omega))
       subst hje
       have e1 : irem (((w / 18446744073709551616) / 2 ^ (k - 1 - 64) : Nat) : Int) (Int.ofNat 2) = ((w / 2 ^ (k - 1) % 2 : Nat) : Int) := by rw [n_ofn, u_rem, hbit]
       rw [e1]
       have tr := twice_ok (w / 2 ^ k % 100000) (w / 2 ^ (k - 1) % 2) (by omega) (by omega)
       have hr2 : 2 * (w / 2 ^ k % 100000) + w / 2 ^ (k - 1) % 2 < 200000 := by omega
       obtain ⟨r2, hr2e⟩ : ∃ r2 : Nat, 2 * (w / 2 ^ k % 100000) + w / 2 ^ (k - 1) % 2 = r2 := ⟨_, rfl⟩
       rw [hr2e] at tr hr2
       have q1 : ilt (Int.ofNat 0) ((r2 / 18446744073709551616 : Nat) : Int) = false := by rw [ilt_f, show r2 / 18446744073709551616 = 0 by omega]; decide
       have eq1 := (q_step (w / 2 ^ k) (w / 2 ^ (k - 1) % 2) (by omega)).1
       have eq2 := (q_step (w / 2 ^ k) (w / 2 ^ (k - 1) % 2) (by omega)).2
       rw [← hV, hr2e] at eq1 eq2
       by_cases hge : 100000 ≤ r2
       · rw [if_pos hge] at eq1 eq2
         have q2 : ile ((100000 : Nat) : Int) ((r2 % 18446744073709551616 : Nat) : Int) = true := by rw [ile_t]; omega
         have tq := twice_ok (w / 2 ^ k / 100000) 1 (by omega) (by omega)
         obtain ⟨r3, g1, g2, g3⟩ := q_sub r2 hge hr2
         rw [g1] at eq2
         clear hge hr2 g1
         repeat' ((first | refine bt ?_ | refine bf ?_ | refine vpur_i tr ?_ | refine vpur_i tq ?_ | refine vl ?_ | fail) <;> conv => whnf)
         refine ⟨⟨k - 1, hkb⟩, hkm, cons_eq rfl (cons_eq rfl (cons_eq rfl (cons_eq rfl (cons_eq rfl (cons_eq rfl (cons_eq (slot_eq (I_eq hdn)) rfl)))))), cons_eq rfl (cons_eq rfl (cons_eq (fix2_eq ?_ ?_) (cons_eq (fix2_eq ?_ ?_) rfl))), rfl, rfl⟩
         · rw [eq1]
         · rw [eq1]
         · rw [eq2, g3]; rfl
         · rw [eq2]; exact g2
       · rw [if_neg hge] at eq1 eq2
         have q2 : ile ((100000 : Nat) : Int) ((r2 % 18446744073709551616 : Nat) : Int) = false := by rw [ile_f]; omega
         have tq := twice_ok (w / 2 ^ k / 100000) 0 (by omega) (by omega)
         repeat' ((first | refine bt ?_ | refine bf ?_ | refine vpur_i tr ?_ | refine vpur_i tq ?_ | refine vl ?_ | fail) <;> conv => whnf)
         refine ⟨⟨k - 1, hkb⟩, hkm, cons_eq rfl (cons_eq rfl (cons_eq rfl (cons_eq rfl (cons_eq rfl (cons_eq rfl (cons_eq (slot_eq (I_eq hdn)) rfl)))))), cons_eq rfl (cons_eq rfl (cons_eq (fix2_eq ?_ ?_) (cons_eq (fix2_eq ?_ ?_) rfl))), rfl, rfl⟩
         · rw [eq1]
         · rw [eq1]
         · rw [eq2]
         · rw [eq2]
 · have : k = 0 := by (first | omega | (simp only [ilt_t, ilt_f, ile_t, ile_f, ieq_t, ieq_f, ofn, List.length_map, Bool.not_eq_true', Bool.not_eq_false'] at *; omega))
   subst this
   repeat' ((first | refine bt ?_ | refine bf ?_ | refine vl ?_ | fail) <;> conv => whnf)
   rw [Nat.pow_zero, Nat.div_one]
   refine ⟨congrArg CR.ret (congrArg AV.tup (cons_eq rfl (cons_eq (U_eq ?_) rfl))), rfl⟩
   rw [Nat.mod_eq_of_lt (a := w % 100000) (b := 18446744073709551616) (by omega)]
end Go.Proofs.YtkljckbaenbjeaaGreatDoor.Ab
namespace Go.Proofs.YtkljckbaenbjeaaGreatDoor.Ab
open Go
set_option linter.unusedSimpArgs false
set_option maxRecDepth 100000
set_option linter.unusedVariables false
set_option maxHeartbeats 4000000
theorem rmulDiv_ok (a b : Int) (h1 : -68719476736 ≤ a) (h2 : a ≤ 68719476736) (h3 : -1073741824 ≤ b) (h4 : b ≤ 1073741824) :
 Pur F0 147 [I a, I b, I 100000] [] .no (.ret (.tup [I (a * b / 100000), I 0])) .no := by
 refine pur_code code147_ok ?_
 conv => whnf
 have s1 := rsize_ok a (by omega) (by omega)
 have s2 := rsize_ok b (by omega) (by omega)
 have s3 := rsize_ok 100000 (by omega) (by omega)
 have m := product_ok a.natAbs b.natAbs (by omega) (by omega)
 have hx : a.natAbs * b.natAbs ≤ 68719476736 * 1073741824 := Nat.mul_le_mul (by omega) (by omega)
 obtain ⟨x, hxe⟩ : ∃ x : Nat, a.natAbs * b.natAbs = x := ⟨_, rfl⟩
 rw [hxe] at m hx
 have d := quotient_ok x (by omega)
 have t1 : ieq 100000 (Int.ofNat 0) = false := by rw [ieq_f]; decide
 have hm := mul_sign a b
 rw [hxe] at hm
 have hbe := below_d a b
 have hq : x / 100000 ≤ 1000000000000000 := by omega
 have qh : x / 100000 / 18446744073709551616 = 0 := by omega
 have ql : x / 100000 % 18446744073709551616 = x / 100000 := by omega
 have z1 : ilt (Int.ofNat 0) ((x / 100000 / 18446744073709551616 : Nat) : Int) = false := by rw [qh, ilt_f]; decide
 have z2 : ilt (Int.ofNat 9223372036854775807) ((x / 100000 % 18446744073709551616 : Nat) : Int) = false := by rw [ql, ilt_f]; simp only [Int.ofNat_eq_natCast]; omega
 have qh1 : (x / 100000 + 1) / 18446744073709551616 = 0 := by omega
 have ql1 : (x / 100000 + 1) % 18446744073709551616 = x / 100000 + 1 := by omega
 have z3 : ilt (Int.ofNat 0) (((x / 100000 + 1) / 18446744073709551616 : Nat) : Int) = false := by rw [qh1, ilt_f]; decide
 have z4 : ilt (Int.ofNat 9223372036854775807) (((x / 100000 + 1) % 18446744073709551616 : Nat) : Int) = false := by rw [ql1, ilt_f]; simp only [Int.ofNat_eq_natCast]; omega
 have pl := plus_ok (x / 100000) 1 (by omega) (by decide)
 by_cases hs : decide (a < 0) = decide (b < 0)
 · rw [if_pos hs] at hm
   rw [decide_eq_true hs] at hbe
   repeat' ((first | refine bt ?_ | refine bf ?_ | refine vpur_i s1 ?_ | refine vpur_i s2 ?_ | refine vpur_i s3 ?_ | refine vpur_i m ?_ | refine vpur_i d ?_ | refine vl ?_ | fail) <;> conv => whnf)
   refine ⟨congrArg CR.ret (congrArg AV.tup (cons_eq (I_eq ?_) rfl)), rfl⟩
   rw [hm, ql, pos_cast _ (by omega)]; omega
 · rw [if_neg hs] at hm
   rw [decide_eq_false hs] at hbe
   have fin0 : x % 100000 = 0 → icast .i64 (isub .u64 (Int.ofNat 0) ((x / 100000 % 18446744073709551616 : Nat) : Int)) = a * b / 100000 := by
    intro h
    have e : isub .u64 (Int.ofNat 0) ((x / 100000 % 18446744073709551616 : Nat) : Int) = isub .u64 0 ((x / 100000 % 18446744073709551616 : Nat) : Int) := rfl
    rw [e, hm, ql, neg_cast _ (by omega)]; omega
   have fin1 : x % 100000 ≠ 0 → icast .i64 (isub .u64 (Int.ofNat 0) (((x / 100000 + 1) % 18446744073709551616 : Nat) : Int)) = a * b / 100000 := by
    intro h
    have e : isub .u64 (Int.ofNat 0) (((x / 100000 + 1) % 18446744073709551616 : Nat) : Int) = isub .u64 0 (((x / 100000 + 1) % 18446744073709551616 : Nat) : Int) := rfl
    rw [e, hm, ql1, neg_cast _ (by omega)]; omega
   by_cases hl : x % 100000 = 0
   · have w1 : ilt (Int.ofNat 0) ((x % 100000 : Nat) : Int) = false := by rw [hl, ilt_f]; decide
     by_cases hz : x / 100000 = 0
     · have w2 : (!(ieq ((x / 100000 / 18446744073709551616 : Nat) : Int) (Int.ofNat 0) && ieq ((x / 100000 % 18446744073709551616 : Nat) : Int) (Int.ofNat 0))) = false := by rw [qh, ql, hz]; simp [ieq_d]
       repeat' ((first | refine bt ?_ | refine bf ?_ | refine vpur_i s1 ?_ | refine vpur_i s2 ?_ | refine vpur_i s3 ?_ | refine vpur_i m ?_ | refine vpur_i d ?_ | refine vpur_i pl ?_ | refine vl ?_ | fail) <;> conv => whnf)
       refine ⟨congrArg CR.ret (congrArg AV.tup (cons_eq (I_eq ?_) rfl)), rfl⟩
       rw [hm, ql, pos_cast _ (by omega)]; omega
     · have w2 : (!(ieq ((x / 100000 / 18446744073709551616 : Nat) : Int) (Int.ofNat 0) && ieq ((x / 100000 % 18446744073709551616 : Nat) : Int) (Int.ofNat 0))) = true := by rw [qh, ql]; simp [ieq_d]; omega
       repeat' ((first | refine bt ?_ | refine bf ?_ | refine vpur_i s1 ?_ | refine vpur_i s2 ?_ | refine vpur_i s3 ?_ | refine vpur_i m ?_ | refine vpur_i d ?_ | refine vpur_i pl ?_ | refine vl ?_ | fail) <;> conv => whnf)
       refine ⟨congrArg CR.ret (congrArg AV.tup (cons_eq (I_eq ?_) rfl)), rfl⟩
       exact fin0 hl
   · have w1 : ilt (Int.ofNat 0) ((x % 100000 : Nat) : Int) = true := by rw [ilt_t]; simp only [Int.ofNat_eq_natCast]; omega
     by_cases hz : x / 100000 = 0
     · have w2 : (!(ieq ((x / 100000 / 18446744073709551616 : Nat) : Int) (Int.ofNat 0) && ieq ((x / 100000 % 18446744073709551616 : Nat) : Int) (Int.ofNat 0))) = false := by rw [qh, ql, hz]; simp [ieq_d]
       repeat' ((first | refine bt ?_ | refine bf ?_ | refine vpur_i s1 ?_ | refine vpur_i s2 ?_ | refine vpur_i s3 ?_ | refine vpur_i m ?_ | refine vpur_i d ?_ | refine vpur_i pl ?_ | refine vl ?_ | fail) <;> conv => whnf)
       refine ⟨congrArg CR.ret (congrArg AV.tup (cons_eq (I_eq ?_) rfl)), rfl⟩
       exact fin1 hl
     · have w2 : (!(ieq ((x / 100000 / 18446744073709551616 : Nat) : Int) (Int.ofNat 0) && ieq ((x / 100000 % 18446744073709551616 : Nat) : Int) (Int.ofNat 0))) = true := by rw [qh, ql]; simp [ieq_d]; omega
       repeat' ((first | refine bt ?_ | refine bf ?_ | refine vpur_i s1 ?_ | refine vpur_i s2 ?_ | refine vpur_i s3 ?_ | refine vpur_i m ?_ | refine vpur_i d ?_ | refine vpur_i pl ?_ | refine vl ?_ | fail) <;> conv => whnf)
       refine ⟨congrArg CR.ret (congrArg AV.tup (cons_eq (I_eq ?_) rfl)), rfl⟩
       exact fin1 hl
theorem rpercent_ok (m b : Int) : Pur F0 124 [I m, I b] [] .no (.ret (.tup [I (pct m b).1, I (pct m b).2])) .no := by
 refine pur_code (cf := cfn Tryz.f124) (by kernel_rfl) ?_
 conv => arg 3; reduce
 conv => whnf
 by_cases hc : isPx b = true ∧ -1073741824 ≤ m ∧ m ≤ 1073741824
 · have hp : pct m b = if isPx (b * m / 100000) = true then (b * m / 100000, 0) else (0, 10) := if_pos hc
   obtain ⟨h1, h2, h3⟩ := hc
   have hb : -68719476736 ≤ b ∧ b ≤ 68719476736 := by simpa [isPx] using h1
   have d := rmulDiv_ok b m hb.1 hb.2 h2 h3
   have t1 : (!isPx b) = false := by rw [h1]; rfl
   have t2 : ilt m (Int.negSucc 1073741823) = false := by rw [ilt_f]; omega
   have t3 : ilt (Int.ofNat 1073741824) m = false := by rw [ilt_f]; simp only [Int.ofNat_eq_natCast]; omega
   have t4 : (!ieq 0 (Int.ofNat 0)) = false := by rw [ieq_d]; rfl
   by_cases h4 : isPx (b * m / 100000) = true
   · have t5 : (!isPx (b * m / 100000)) = false := by rw [h4]; rfl
     rw [if_pos h4] at hp
     repeat' ((first | refine bt ?_ | refine bf ?_ | refine vpur_i (refIs_ok _) ?_ | refine vpur_i d ?_ | refine vl ?_ | fail) <;> conv => whnf)
     rw [hp]; exact ⟨rfl, rfl⟩
   · have t5 : (!isPx (b * m / 100000)) = true := by simpa using h4
     rw [if_neg h4] at hp
     repeat' ((first | refine bt ?_ | refine bf ?_ | refine vpur_i (refIs_ok _) ?_ | refine vpur_i d ?_ | refine vl ?_ | fail) <;> conv => whnf)
     rw [hp]; exact ⟨rfl, rfl⟩
 · have hp : pct m b = (0, 2) := if_neg hc
   repeat' ((first | refine bt ?_ | refine bf ?_ | refine vpur_i (refIs_ok _) ?_ | refine vl ?_ | refine vb_i (fun h => ?_) (fun h => ?_) | fail) <;> conv => whnf)
   all_goals first
    | (rw [hp]; exact ⟨rfl, rfl⟩)
    | (exfalso
       simp only [ilt_f, Int.ofNat_eq_natCast, Bool.not_eq_false'] at *
       apply hc
       refine ⟨by assumption, by omega, by omega⟩)
end Go.Proofs.YtkljckbaenbjeaaGreatDoor.Ab
namespace Go.Proofs.YtkljckbaenbjeaaGreatDoor.Ab
open Go
set_option linter.unusedSimpArgs false
set_option maxRecDepth 100000
set_option linter.unusedVariables false
def keyBit (k : Int) : Int := if k = 1 then 4 else if k = 4 then 8 else if k = 5 then 8 else if k = 7 then 32 else 0
theorem keyBit_ok (k : Int) : Pur F0 70 [I k] [] .no (.ret (I (keyBit k))) .no := by
 refine pur_code (cf := cfn Tryz.f70) (by kernel_rfl) ?_
 conv => arg 3; reduce
 conv => whnf
 repeat' ((first | refine bt ?_ | refine bf ?_ | refine vl ?_ | refine vb_i (fun h => ?_) (fun h => ?_) | fail) <;> conv => whnf)
 all_goals (refine ⟨?_, rfl⟩; simp_all [keyBit, ieq_t, ieq_f])
def hasBit (a b : Int) : Bool := ilt 0 (iand .i64 a b)
def within (n a most : Int) : Bool := if n < 0 then (if hasBit a 2 = true then ile (isub .i64 0 most) n else false) else ile n most
theorem good1_ok (k n a most : Int) (t u : Nat) : Drp F0 2 69 [I most, .ptr 0 0, .ptr 1 0] [⟨.mine, t, .fix [I k, I n]⟩, ⟨.mine, u, .fix [I a]⟩] .no (.ret (B (within n a most)))
 [⟨.mine, t, .fix [I k, I n]⟩, ⟨.mine, u, .fix [I a]⟩] .no := by
 refine drp_code (cf := cfn Tryz.f69) (by kernel_rfl) ?_
 conv => arg 3; reduce
 conv => whnf
 repeat' ((first | refine bt ?_ | refine bf ?_ | refine vl ?_ | refine vb_i (fun h => ?_) (fun h => ?_) | fail) <;> conv => whnf)
 all_goals (refine ⟨?_, rfl, rfl⟩; simp_all [within, hasBit, ilt_d, ile_d] <;> omega)
def goodL (k n a : Int) : Bool :=
 if k = 2 then within n a 68719476736 else if k = 3 then (hasBit a 1 && within n a 1073741824) else if k = 6 then (hasBit a 16 && decide (0 ≤ n) && decide (n ≤ 1073741824)) else decide (n = 0) && hasBit a (keyBit k)
theorem good_ok (k n a : Int) : Pur F0 41 [.agg [I k, I n], I a] [] .no (.ret (B (goodL k n a))) .no := by
 refine pur_code (cf := cfn Tryz.f41) (by kernel_rfl) ?_
 conv => arg 3; reduce
 conv => whnf
 repeat' ((first | refine bt ?_ | refine bf ?_ | refine vdrp_i (good1_ok _ _ _ _ _ _) ?_ | refine vpur_i (keyBit_ok _) ?_ | refine vl ?_ | refine vb_i (fun h => ?_) (fun h => ?_) | fail) <;> conv => whnf)
 all_goals (refine ⟨?_, rfl⟩; simp_all [goodL, hasBit, ieq_d, ilt_d, ile_d] <;> omega)
end Go.Proofs.YtkljckbaenbjeaaGreatDoor.Ab
namespace Go.Proofs.YtkljckbaenbjeaaGreatDoor.Ab
open Go
set_option linter.unusedSimpArgs false
set_option maxRecDepth 100000
set_option linter.unusedVariables false
set_option maxHeartbeats 4000000
theorem g_ofn (n : Nat) : Int.ofNat n = ((n : Nat) : Int) := rfl
theorem g_in {x : Int} (h1 : -9223372036854775808 ≤ x) (h2 : x ≤ 9223372036854775807) : IntKind.wrap .i64 x = x := IntWalk.i64_in _ ⟨h1, h2⟩
theorem g_quo {a b : Nat} (ha : a ≤ 4611686018427387904) : iquo .i64 (a : Int) (b : Int) = ((a / b : Nat) : Int) := by
 unfold iquo
 have e : ((a : Int).tdiv (b : Int)) = ((a / b : Nat) : Int) := rfl
 have := Nat.div_le_self a b
 rw [e]
 generalize a / b = q at *
 rw [g_in (by omega) (by omega)]
theorem iandp (a : Int) (b : Nat) (hb : b < 64) : 0 < iand .i64 a b ↔ ((a % 18446744073709551616).toNat &&& b) ≠ 0 := by
 have hA : (BitVec.ofInt 64 a).toNat = (a % 18446744073709551616).toNat := by rw [BitVec.toNat_ofInt]; rfl
 have hB : (BitVec.ofInt 64 (b : Int)).toNat = b := by rw [BitVec.toNat_ofInt]; omega
 have hlt : (a % 18446744073709551616).toNat &&& b ≤ b := Nat.and_le_right
 have hw : iand .i64 a b = (((a % 18446744073709551616).toNat &&& b : Nat) : Int) := by
  unfold iand
  show IntKind.wrap .i64 ((BitVec.ofInt 64 a &&& BitVec.ofInt 64 (b : Int)).toNat : Int) = _
  rw [BitVec.toNat_and, hA, hB]
  generalize (a % 18446744073709551616).toNat &&& b = z at *
  exact IntWalk.i64_in _ ⟨by omega, by omega⟩
 rw [hw]
 omega
theorem and_pow (x k : Nat) : (x &&& 2 ^ k) ≠ 0 ↔ x / 2 ^ k % 2 = 1 := by
 have ht : x.testBit k = decide (x / 2 ^ k % 2 = 1) := Nat.testBit_eq_decide_div_mod_eq
 constructor
 · intro h
   refine Classical.byContradiction fun hn => h ?_
   apply Nat.eq_of_testBit_eq
   intro i
   rw [Nat.testBit_and, Nat.testBit_two_pow, Nat.zero_testBit]
   by_cases hi : k = i
   · subst hi; rw [ht, decide_eq_false hn]; rfl
   · simp [hi]
 · intro h e
   have := congrArg (fun y => Nat.testBit y k) e
   simp only [Nat.testBit_and, Nat.testBit_two_pow, Nat.zero_testBit, ht, h] at this
   simp at this
def six (a : Int) : Nat := (a % 64).toNat
theorem hasB (a : Int) (k : Nat) (hk : k < 6) : hasBit a ((2 ^ k : Nat) : Int) = decide (six a / 2 ^ k % 2 = 1) := by
 unfold hasBit six
 rw [ilt_d]
 have h2 : 2 ^ k < 64 := Nat.pow_lt_pow_right (by decide) hk
 rw [Bool.eq_iff_iff, decide_eq_true_eq, decide_eq_true_eq, iandp a _ h2, and_pow]
 have e : (a % 64).toNat = (a % 18446744073709551616).toNat % 64 := by omega
 rw [e]
 generalize (a % 18446744073709551616).toNat = x
 have : k = 0 ∨ k = 1 ∨ k = 2 ∨ k = 3 ∨ k = 4 ∨ k = 5 := by omega
 rcases this with rfl | rfl | rfl | rfl | rfl | rfl <;> simp only [Nat.reducePow] <;> omega
theorem six_lt (a : Int) : six a < 64 := by unfold six; omega
theorem bits_ok (a : Int) : Pur F0 71 [I a] [] .no (.ret (I (six a))) .no := by
 refine pur_code (cf := cfn Tryz.f71) (by kernel_rfl) ?_
 conv => arg 3; reduce
 conv => whnf
 have hz : iz (Int.ofNat 64) = false := by rw [iz_f]; decide
 repeat' ((first | refine bt ?_ | refine bf ?_ | refine vl ?_ | refine vb_i (fun h => ?_) (fun h => ?_) | fail) <;> conv => whnf)
 refine ⟨congrArg CR.ret (I_eq ?_), rfl⟩
 have h := six_lt a
 have e : irem (icast .u64 a) (Int.ofNat 64) = (six a : Int) := by
  obtain ⟨x, hx⟩ : ∃ x : Nat, icast .u64 a = (x : Int) := ⟨(icast .u64 a).toNat, by unfold icast; rw [wu]; omega⟩
  have hx' := hx
  unfold icast at hx'
  rw [wu] at hx'
  rw [hx, g_ofn, u_rem]
  unfold six
  omega
 rw [e, icast64 (by omega) (by omega)]
theorem has_ok (a b : Nat) (ha : a < 64) (hb : 0 < b) : Pur F0 72 [I a, I b] [] .no (.ret (B (decide (a / b % 2 = 1)))) .no := by
 refine pur_code (cf := cfn Tryz.f72) (by kernel_rfl) ?_
 conv => arg 3; reduce
 conv => whnf
 have hz : iz (b : Int) = false := iz_u (by omega)
 have hz2 : iz (Int.ofNat 2) = false := by rw [iz_f]; decide
 repeat' ((first | refine bt ?_ | refine bf ?_ | refine vl ?_ | refine vb_i (fun h => ?_) (fun h => ?_) | fail) <;> conv => whnf)
 refine ⟨congrArg CR.ret (congrArg AV.d (congrArg DV.bool ?_)), rfl⟩
 have e : irem (iquo .i64 (a : Int) (b : Int)) (Int.ofNat 2) = ((a / b % 2 : Nat) : Int) := by rw [g_quo (by omega), g_ofn, u_rem]
 rw [e, ieq_d, g_ofn]
 rw [Bool.eq_iff_iff, decide_eq_true_eq, decide_eq_true_eq]
 exact ⟨fun h => Int.ofNat.inj h, fun h => by rw [h]⟩
theorem lit0 : Int.ofNat 0 = 0 := rfl
theorem lit1 : Int.ofNat 1 = 1 := rfl
theorem lit2 : Int.ofNat 2 = 2 := rfl
theorem lit3 : Int.ofNat 3 = 3 := rfl
theorem lit4 : Int.ofNat 4 = 4 := rfl
theorem lit5 : Int.ofNat 5 = 5 := rfl
theorem lit6 : Int.ofNat 6 = 6 := rfl
theorem lit7 : Int.ofNat 7 = 7 := rfl
theorem litA : Int.ofNat 68719476736 = 68719476736 := rfl
theorem litB : Int.ofNat 1073741824 = 1073741824 := rfl
theorem litC : Int.negSucc 68719476735 = -68719476736 := rfl
theorem litD : Int.negSucc 1073741823 = -1073741824 := rfl
theorem lit64 : Int.ofNat 64 = 64 := rfl
theorem sub1 : isub .i64 0 68719476736 = -68719476736 := by rw [isub64] <;> decide
theorem sub2 : isub .i64 0 1073741824 = -1073741824 := by rw [isub64] <;> decide
theorem has0 (a : Int) : hasBit a 0 = false := by
 unfold hasBit
 rw [ilt_f]
 have : ¬ 0 < iand .i64 a ((0 : Nat) : Int) := by rw [iandp a 0 (by decide)]; simp
 exact Int.not_lt.1 this
theorem rgood_ok (k n a : Int) : Pur F0 44 [.agg [I k, I n], I a] [] .no (.ret (B (goodL k n a))) .no := by
 refine pur_code (cf := cfn Tryz.f44) (by kernel_rfl) ?_
 conv => arg 3; reduce
 conv => whnf
 have h := six_lt a
 have b1 : hasBit a 1 = decide (six a / 1 % 2 = 1) := hasB a 0 (by decide)
 have b2 : hasBit a 2 = decide (six a / 2 % 2 = 1) := hasB a 1 (by decide)
 have b4 : hasBit a 4 = decide (six a / 4 % 2 = 1) := hasB a 2 (by decide)
 have b8 : hasBit a 8 = decide (six a / 8 % 2 = 1) := hasB a 3 (by decide)
 have b16 : hasBit a 16 = decide (six a / 16 % 2 = 1) := hasB a 4 (by decide)
 have b32 : hasBit a 32 = decide (six a / 32 % 2 = 1) := hasB a 5 (by decide)
 have c1 : Pur F0 72 [I (six a), I 1] [] .no (.ret (B (hasBit a 1))) .no := by rw [b1]; exact has_ok (six a) 1 h (by decide)
 have c2 : Pur F0 72 [I (six a), I 2] [] .no (.ret (B (hasBit a 2))) .no := by rw [b2]; exact has_ok (six a) 2 h (by decide)
 have c4 : Pur F0 72 [I (six a), I 4] [] .no (.ret (B (hasBit a 4))) .no := by rw [b4]; exact has_ok (six a) 4 h (by decide)
 have c8 : Pur F0 72 [I (six a), I 8] [] .no (.ret (B (hasBit a 8))) .no := by rw [b8]; exact has_ok (six a) 8 h (by decide)
 have c16 : Pur F0 72 [I (six a), I 16] [] .no (.ret (B (hasBit a 16))) .no := by rw [b16]; exact has_ok (six a) 16 h (by decide)
 have c32 : Pur F0 72 [I (six a), I 32] [] .no (.ret (B (hasBit a 32))) .no := by rw [b32]; exact has_ok (six a) 32 h (by decide)
 have bo := bits_ok a
 clear b1 b2 b4 b8 b16 b32
 generalize six a = m at *
 repeat' ((first | refine bt ?_ | refine bf ?_ | refine vpur_i bo ?_ | refine vpur_i c1 ?_ | refine vpur_i c2 ?_ | refine vpur_i c4 ?_ | refine vpur_i c8 ?_ | refine vpur_i c16 ?_ | refine vpur_i c32 ?_ | refine vl ?_ | refine vb_i (fun h => ?_) (fun h => ?_) | fail) <;> conv => whnf)
 all_goals clear bo c1 c2 c4 c8 c16 c32
 all_goals refine ⟨congrArg CR.ret (congrArg AV.d (congrArg DV.bool ?_)), rfl⟩
 all_goals simp only [ieq_t, ieq_f, ile_t, ile_f, ile_d, ieq_d, ilt_d, lit2, lit3, lit1, lit4, lit5, lit6, lit7, litA, litB, lit0, litC, litD] at *
 all_goals have h0 := has0 a
 all_goals try subst k
 all_goals simp only [goodL, within, keyBit, ile_d, sub1, sub2]
 all_goals (simp_all <;> first | omega | ((repeat' split) <;> (try simp_all) <;> omega))
end Go.Proofs.YtkljckbaenbjeaaGreatDoor.Ab
namespace Go.Proofs.YtkljckbaenbjeaaGreatDoor.Ab
open Go
set_option linter.unusedSimpArgs false
set_option maxRecDepth 100000
set_option linter.unusedVariables false
set_option maxHeartbeats 4000000
def lenR (k n b : Int) (d : Bool) : Int × Bool × Int := if k = 2 then (n, true, 0) else if k = 3 ∧ d = true then ((pct n b).1, decide ((pct n b).2 = 0), (pct n b).2) else (0, false, 0)
theorem lenR_eq {x y : Int × Bool × Int} (h : x = y) : CR.ret (AV.tup [I x.1, B x.2.1, I x.2.2]) = CR.ret (AV.tup [I y.1, B y.2.1, I y.2.2]) := by rw [h]
theorem resolve_ok (k n b : Int) (d : Bool) : Pur F0 62 [.agg [I k, I n], I b, B d] [] .no (.ret (.tup [I (lenR k n b d).1, B (lenR k n b d).2.1, I (lenR k n b d).2.2])) .no := by
 refine pur_code code62_ok ?_
 conv => whnf
 have hn : ieq n n = true := by rw [ieq_t]
 repeat' ((first | refine bt ?_ | refine bf ?_ | refine vpur_i (percent_ok _ _) ?_ | refine vl ?_ | refine vb_i (fun h => ?_) (fun h => ?_) | fail) <;> conv => whnf)
 · refine ⟨lenR_eq (x := (n, true, 0)) ?_, rfl⟩
   simp_all [lenR, ieq_d, lit2]
 · refine ⟨lenR_eq (x := ((pct n b).1, ieq (pct n b).2 (Int.ofNat 0), (pct n b).2)) ?_, rfl⟩
   simp_all [lenR, ieq_d, lit2, lit3, lit0]
 · refine ⟨lenR_eq (x := (0, false, 0)) ?_, rfl⟩
   simp_all [lenR, ieq_d, lit2, lit3, lit0]
 · refine ⟨lenR_eq (x := (0, false, 0)) ?_, rfl⟩
   simp_all [lenR, ieq_d, lit2, lit3, lit0]
theorem rresolve_ok (k n b : Int) (d : Bool) : Pur F0 99 [.agg [I k, I n], I b, B d] [] .no (.ret (.tup [I (lenR k n b d).1, B (lenR k n b d).2.1, I (lenR k n b d).2.2])) .no := by
 refine pur_code (cf := cfn Tryz.f99) (by kernel_rfl) ?_
 conv => arg 3; reduce
 conv => whnf
 repeat' ((first | refine bt ?_ | refine bf ?_ | refine vpur_i (rpercent_ok _ _) ?_ | refine vl ?_ | refine vb_i (fun h => ?_) (fun h => ?_) | fail) <;> conv => whnf)
 · refine ⟨lenR_eq (x := (n, true, 0)) ?_, rfl⟩
   simp_all [lenR, ieq_d, lit2]
 · refine ⟨lenR_eq (x := ((pct n b).1, ieq (pct n b).2 (Int.ofNat 0), (pct n b).2)) ?_, rfl⟩
   simp_all [lenR, ieq_d, lit2, lit3, lit0]
 · refine ⟨lenR_eq (x := (0, false, 0)) ?_, rfl⟩
   simp_all [lenR, ieq_d, lit2, lit3, lit0]
 · refine ⟨lenR_eq (x := (0, false, 0)) ?_, rfl⟩
   simp_all [lenR, ieq_d, lit2, lit3, lit0]
end Go.Proofs.YtkljckbaenbjeaaGreatDoor.Ab
namespace Go.Proofs.YtkljckbaenbjeaaGreatDoor.Ab
open Go
set_option linter.unusedSimpArgs false
theorem retB {a b : Bool} (h : a = b) : CR.ret (B a) = CR.ret (B b) := by rw [h]
theorem retI {a b : Int} (h : a = b) : CR.ret (I a) = CR.ret (I b) := by rw [h]
noncomputable def pb (p : Prop) : Bool := @decide p (Classical.propDecidable p)
theorem pb_t {p : Prop} (h : p) : pb p = true := by unfold pb; exact @decide_eq_true _ (Classical.propDecidable p) h
theorem pb_f {p : Prop} (h : ¬ p) : pb p = false := by unfold pb; exact @decide_eq_false _ (Classical.propDecidable p) h
theorem pb_iff {p : Prop} : pb p = true ↔ p := by
 by_cases h : p
 · rw [pb_t h]; simp [h]
 · rw [pb_f h]; simp [h]
theorem pb_ff {p : Prop} : pb p = false ↔ ¬ p := by
 by_cases h : p
 · rw [pb_t h]; simp [h]
 · rw [pb_f h]; simp [h]
theorem pb_congr {p q : Prop} (h : p ↔ q) : pb p = pb q := by
 by_cases hp : p
 · rw [pb_t hp, pb_t (h.1 hp)]
 · rw [pb_f hp, pb_f fun hq => hp (h.2 hq)]
def lkU : List (Nat × AV) → Nat → Option AV
 | [], _ => none
 | (u, v) :: l, t => match Nat.beq t u with
  | true => some v
  | false => lkU l t
def updE (t : Nat) (v : AV) : Option AV → Nat × AV
 | some w => (t, w)
 | none => (t, v)
def updL : List (Nat × AV) → List (Nat × AV) → List (Nat × AV)
 | [], _ => []
 | (t, v) :: l, u => updE t v (lkU u t) :: updL l u
section
variable {F : Nat → Option Fn}
def Upto {α : Type} (n : Nat) (I : Nat → α → Prop) : Type := { p : Nat × α // p.1 ≤ n ∧ I p.1 p.2 }
def qCnt {σ : Type} (fr : σ → List (Nat × AV)) (h : σ → Heap) (meas : σ → Nat) (ds : List (Mode × Nat × List AV)) (rc : Rec) (m : Nat) : Rec → List (Nat × AV) → Heap → List (Mode × Nat × List AV) → Prop :=
 fun rc' vs g ds' => ∃ s', meas s' < m ∧ vs = fr s' ∧ g = h s' ∧ ds' = ds ∧ rc' = rc
theorem vloop_cnh {α : Type} {keep : List Nat} {c : CC} {K : KK} {n0 : Nat} {ds : List (Mode × Nat × List AV)} {rc : Rec} {fr0 : List (Nat × AV)} {h0 : Heap} (n : Nat) (I : Nat → α → Prop) (u : Nat → α → List (Nat × AV)) (h : Nat → α → Heap)
 (x : α) (hx : I 0 x) (e1 : updL fr0 (u 0 x) = fr0) (e2 : h 0 x = h0)
 (step : ∀ k x (hk : k ≤ n) (hI : I k x), vC F n0 c (look (updL fr0 (u k x))) (h k x) ds rc (kRound keep n0 (qCnt (σ := Upto n I) (fun p => updL fr0 (u p.1.1 p.1.2)) (fun p => h p.1.1 p.1.2) (fun p => n - p.1.1) ds rc (n - k)) K)) :
 vloop F keep c ⟨look fr0, h0, ds, rc, n0⟩ (kLoop K) := by
 rw [← e2]
 have key : vloop F keep c ⟨look (updL fr0 (u 0 x)), h 0 x, ds, rc, n0⟩ (kLoop K) :=
  vloop_by (σ := Upto n I) (fun p => updL fr0 (u p.1.1 p.1.2)) (fun p => h p.1.1 p.1.2) (fun p => n - p.1.1) (fun p => step p.1.1 p.1.2 p.2.1 p.2.2) ⟨(0, x), Nat.zero_le _, hx⟩
 rwa [e1] at key
theorem vloop_cnt {α : Type} {keep : List Nat} {c : CC} {K : KK} {n0 : Nat} {ds : List (Mode × Nat × List AV)} {rc : Rec} {fr0 : List (Nat × AV)} {h0 : Heap} (n : Nat) (I : Nat → α → Prop) (u : Nat → α → List (Nat × AV))
 (x : α) (hx : I 0 x) (e1 : updL fr0 (u 0 x) = fr0)
 (step : ∀ k x (hk : k ≤ n) (hI : I k x), vC F n0 c (look (updL fr0 (u k x))) h0 ds rc (kRound keep n0 (qCnt (σ := Upto n I) (fun p => updL fr0 (u p.1.1 p.1.2)) (fun _ => h0) (fun p => n - p.1.1) ds rc (n - k)) K)) :
 vloop F keep c ⟨look fr0, h0, ds, rc, n0⟩ (kLoop K) := vloop_cnh n I u (fun _ _ => h0) x hx e1 rfl step
end
theorem get_in {α : Type} {l : List α} {k : Nat} (h : k < l.length) : ∃ x, l[k]? = some x := ⟨l[k], List.getElem?_eq_getElem h⟩
theorem get_map {α β : Type} {f : α → β} {l : List α} {k : Nat} {x : α} (h : l[k]? = some x) : (l.map f)[k]? = some (f x) := by rw [List.getElem?_map, h]; rfl
theorem iget_map {α β : Type} {f : α → β} {l : List α} {k : Nat} {x : α} (h : l[k]? = some x) : iget (l.map f) (k : Int) = some (f x) := iget_t (get_map h)
theorem lt_len {α β : Type} {f : α → β} {l : List α} {k : Nat} (h : k < l.length) : ilt (k : Int) ((l.map f).length : Int) = true := by rw [ilt_t, List.length_map]; omega
theorem nlt_len {α β : Type} {f : α → β} {l : List α} {k : Nat} (h : ¬ k < l.length) : ilt (k : Int) ((l.map f).length : Int) = false := by rw [ilt_f, List.length_map]; omega
theorem upto_succ {α : Type} {l : List α} {k : Nat} {P : Nat → α → Prop} (h : ∀ i x, i < k → l[i]? = some x → P i x) {x : α} (hx : l[k]? = some x) (hp : P k x) : ∀ i y, i < k + 1 → l[i]? = some y → P i y := by
 intro i y hi hy
 rcases Nat.lt_or_ge i k with h1 | h1
 · exact h i y h1 hy
 · have : i = k := by omega
   subst this
   rw [hx] at hy
   cases hy
   exact hp
end Go.Proofs.YtkljckbaenbjeaaGreatDoor.Ab
namespace Go.Proofs.YtkljckbaenbjeaaGreatDoor.Ab
open Go
set_option linter.unusedSimpArgs false
set_option maxRecDepth 100000
set_option linter.unusedVariables false
set_option maxHeartbeats 4000000
structure Trk where
 ak : Int
 an : Int
 bk : Int
 bn : Int
 fit : Bool
 lk : Int
 ln : Int
 deriving Inhabited
def trkRow (t : Trk) : List DV := [.int .i64 t.ak, .int .i64 t.an, .int .i64 t.bk, .int .i64 t.bn, .bool t.fit, .int .i64 t.lk, .int .i64 t.ln]
def trkL (t : Trk) : List AV := [I t.ak, I t.an, I t.bk, I t.bn, B t.fit, I t.lk, I t.ln]
def trkA (t : Trk) : AV := .agg (trkL t)
def lenK (k : Int) : Bool := decide (k = 2 ∨ k = 3)
def fixedT (t : Trk) : Bool := !t.fit && (lenK t.ak || lenK t.bk)
def rightT (t : Trk) : Bool := if t.fit = true then decide (t.ak = 1) && decide (t.an = 0) && decide (t.bk = 5) && decide (t.bn = 0) && lenK t.lk && goodL t.lk t.ln 1 else decide (t.lk = 0) && decide (t.ln = 0) && goodL t.ak t.an 13 && goodL t.bk t.bn 29
theorem lit13 : Int.ofNat 13 = 13 := rfl
theorem lit29 : Int.ofNat 29 = 29 := rfl
theorem auto_ok : Pur F0 68 [] [] .no (.ret (.agg [I 1, I 0])) .no := by
 refine pur_code code68_ok ?_
 conv => whnf
 repeat' ((first | refine bt ?_ | refine bf ?_ | refine vl ?_ | fail) <;> conv => whnf)
 exact ⟨rfl, rfl⟩
theorem fit_ok (k n : Int) : Pur F0 39 [.agg [I k, I n]] [] .no (.ret (.agg [I 1, I 0, I 5, I 0, B true, I k, I n])) .no := by
 refine pur_code code39_ok ?_
 conv => whnf
 repeat' ((first | refine bt ?_ | refine bf ?_ | refine vpur_i auto_ok ?_ | refine vl ?_ | fail) <;> conv => whnf)
 exact ⟨rfl, rfl⟩
theorem isLen_ok (k n : Int) : Pur F0 40 [.agg [I k, I n]] [] .no (.ret (B (lenK k))) .no := by
 refine pur_code code40_ok ?_
 conv => whnf
 repeat' ((first | refine bt ?_ | refine bf ?_ | refine vl ?_ | refine vb_i (fun h => ?_) (fun h => ?_) | fail) <;> conv => whnf)
 all_goals (refine ⟨retB ?_, rfl⟩; simp_all [lenK, ieq_t, ieq_f, ieq_d, lit2, lit3])
theorem risLen_ok (k n : Int) : Pur F0 43 [.agg [I k, I n]] [] .no (.ret (B (lenK k))) .no := by
 refine pur_code code43_ok ?_
 conv => whnf
 repeat' ((first | refine bt ?_ | refine bf ?_ | refine vl ?_ | refine vb_i (fun h => ?_) (fun h => ?_) | fail) <;> conv => whnf)
 all_goals (refine ⟨retB ?_, rfl⟩; simp_all [lenK, ieq_t, ieq_f, ieq_d, lit2, lit3])
theorem fixed_ok (t : Trk) : Pur F0 61 [trkA t] [] .no (.ret (B (fixedT t))) .no := by
 obtain ⟨ak, an, bk, bn, fit, lk, ln⟩ := t
 refine pur_code code61_ok ?_
 conv => whnf
 repeat' ((first | refine bt ?_ | refine bf ?_ | refine vpur_i (isLen_ok _ _) ?_ | refine vl ?_ | refine vb_i (fun h => ?_) (fun h => ?_) | fail) <;> conv => whnf)
 all_goals (refine ⟨retB ?_, rfl⟩; simp_all [fixedT])
theorem rfixed_ok (t : Trk) : Pur F0 98 [trkA t] [] .no (.ret (B (fixedT t))) .no := by
 obtain ⟨ak, an, bk, bn, fit, lk, ln⟩ := t
 refine pur_code code98_ok ?_
 conv => whnf
 repeat' ((first | refine bt ?_ | refine bf ?_ | refine vpur_i (risLen_ok _ _) ?_ | refine vl ?_ | refine vb_i (fun h => ?_) (fun h => ?_) | fail) <;> conv => whnf)
 all_goals (refine ⟨retB ?_, rfl⟩; simp_all [fixedT])
theorem right_ok (t : Trk) : Pur F0 22 [trkA t] [] .no (.ret (B (rightT t))) .no := by
 obtain ⟨ak, an, bk, bn, fit, lk, ln⟩ := t
 refine pur_code code22_ok ?_
 conv => whnf
 repeat' ((first | refine bt ?_ | refine bf ?_ | refine vpur_i (isLen_ok _ _) ?_ | refine vpur_i (fit_ok _ _) ?_ | refine vpur_i (good_ok _ _ _) ?_ | refine vl ?_ | refine vb_i (fun h => ?_) (fun h => ?_) | fail) <;> conv => whnf)
 all_goals (refine ⟨retB ?_, rfl⟩; simp_all [rightT, ieq_t, ieq_f, ieq_d, lit0, lit1, lit5, lit13, lit29])
theorem rright_ok (t : Trk) : Pur F0 24 [trkA t] [] .no (.ret (B (rightT t))) .no := by
 obtain ⟨ak, an, bk, bn, fit, lk, ln⟩ := t
 refine pur_code code24_ok ?_
 conv => whnf
 repeat' ((first | refine bt ?_ | refine bf ?_ | refine vpur_i (risLen_ok _ _) ?_ | refine vpur_i (rgood_ok _ _ _) ?_ | refine vl ?_ | refine vb_i (fun h => ?_) (fun h => ?_) | fail) <;> conv => whnf)
 all_goals (refine ⟨retB ?_, rfl⟩; simp_all [rightT, ieq_t, ieq_f, ieq_d, lit0, lit1, lit5, lit13, lit29])
end Go.Proofs.YtkljckbaenbjeaaGreatDoor.Ab
