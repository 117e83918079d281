/- Layer 1 (fixed): a quotient. -/
import Derived.Test.YtapnjabhcdlhbaaGreatDoorC01b
namespace Go.Proofs.YtapnjabhcdlhbaaGreatDoor.Ab
open Go
set_option linter.unusedSimpArgs false
set_option maxRecDepth 100000
set_option linter.unusedVariables false
set_option maxHeartbeats 4000000

theorem lz_ok : Pur F0 217 [U (100000 : Nat)] [] .no (.ret (I 47)) .no := pur_closed (n := 100) (by kernel_rfl)
theorem c47 : icast .u64 47 = ((47 : Nat) : Int) := by unfold icast; rw [wu]; rfl
theorem y47 : ishl .u64 ((100000 : Nat) : Int) (icast .u64 47).toNat = ((14073748835532800000 : Nat) : Int) := by rw [c47]; exact u_shl 47 (by decide)
theorem d_z1 (u : Nat) (hub : u < 14073748835532800000) : ile (Int.ofNat 4294967296) ((u / 3276800000 : Nat) : Int) = false := by rw [ile_f]; simp only [Int.ofNat_eq_natCast]; omega
theorem d_z2 (v : Nat) : ∀ a b : Nat, ilt (iadd .u64 (imul .u64 (Int.ofNat 4294967296) (a : Int)) (v : Int)) (imul .u64 (b : Int) ((0 : Nat) : Int)) = false := fun a b => by
  rw [Int.ofNat_eq_natCast, u_mul, u_mul, u_add, ilt_f]
  rw [Nat.mul_zero]
  exact Int.natCast_nonneg _
theorem d_q (u : Nat) (hub : u < 14073748835532800000) : iquo .u64 (u : Int) ((3276800000 : Nat) : Int) = ((u / 3276800000 : Nat) : Int) := u_quo (by omega)
theorem d_r (u : Nat) (hub : u < 14073748835532800000) : isub .u64 (u : Int) (imul .u64 ((u / 3276800000 : Nat) : Int) ((3276800000 : Nat) : Int)) = ((u % 3276800000 : Nat) : Int) := by
  rw [u_mul, u_sub (by omega) (by omega)]; congr 1; omega
theorem d_un (u v : Nat) (hub : u < 14073748835532800000) (hv : v < 4294967296) :
    isub .u64 (iadd .u64 (imul .u64 (u : Int) (Int.ofNat 4294967296)) (v : Int)) (imul .u64 ((u / 3276800000 : Nat) : Int) ((14073748835532800000 : Nat) : Int)) = ((u % 3276800000 * 4294967296 + v : Nat) : Int) := by
  rw [Int.ofNat_eq_natCast, u_mul, u_mul, u_add, u_sub' (by omega)]
  congr 1
  have h1 : u = 3276800000 * (u / 3276800000) + u % 3276800000 := by omega
  have h2 : u % 3276800000 < 3276800000 := by omega
  have h3 : u / 3276800000 < 4294967296 := by omega
  generalize u / 3276800000 = q at *
  generalize u % 3276800000 = r at *
  subst h1
  omega
theorem d_end (u v q : Nat) (h1 : u < 4294967296) (h2 : v < 4294967296) : iadd .u64 (imul .u64 (u : Int) (Int.ofNat 4294967296)) (v : Int) = ((u * 4294967296 + v : Nat) : Int) := by
  rw [Int.ofNat_eq_natCast, u_mul, u_add]
  congr 1
  omega
theorem d_rem (u : Nat) (hub : u < 14073748835532800000) :
    isub .u64 (iadd .u64 (imul .u64 (u : Int) (Int.ofNat 4294967296)) ((0 : Nat) : Int)) (imul .u64 ((u / 3276800000 : Nat) : Int) ((14073748835532800000 : Nat) : Int)) = ((u % 3276800000 * 4294967296 : Nat) : Int) := by have h := d_un u 0 hub (by decide); rw [Nat.add_zero] at h; exact h
theorem d_shr (u : Nat) : ishr .u64 ((u % 3276800000 * 4294967296 : Nat) : Int) ((47 : Nat) : Int).toNat = ((u % 3276800000 / 32768 : Nat) : Int) := by
  rw [show ((47 : Nat) : Int).toNat = 47 from rfl, u_shr 47 (by decide)]
  have : u % 3276800000 * 4294967296 / 2 ^ 47 = u % 3276800000 / 32768 := by omega
  rw [this]
theorem d_fin (hi lo u v w : Nat) (hh : hi < 100000) (hl : lo < 18446744073709551616) (hu : hi * 140737488355328 + lo / 131072 = u) (hv : lo % 131072 * 32768 = v) (hw : u % 3276800000 * 4294967296 + v = w) :
    u / 3276800000 * 4294967296 + w / 3276800000 = (hi * 18446744073709551616 + lo) / 100000 ∧ w % 3276800000 / 32768 = (hi * 18446744073709551616 + lo) % 100000 := by
  have e : (hi * 18446744073709551616 + lo) * 32768 = u * 4294967296 + v := by omega
  obtain ⟨N, hN⟩ : ∃ N : Nat, hi * 18446744073709551616 + lo = N := ⟨_, rfl⟩
  rw [hN] at e ⊢
  clear hu hv hl hh hN
  have a1 : u = 3276800000 * (u / 3276800000) + u % 3276800000 := by omega
  have a2 : w = 3276800000 * (w / 3276800000) + w % 3276800000 := by omega
  have a3 : w % 3276800000 < 3276800000 := by omega
  generalize u / 3276800000 = q1 at *
  generalize u % 3276800000 = r1 at *
  generalize w / 3276800000 = q2 at *
  generalize w % 3276800000 = r2 at *
  have a4 : N * 32768 = 3276800000 * (q1 * 4294967296 + q2) + r2 := by omega
  obtain ⟨Q, hQ⟩ : ∃ Q : Nat, q1 * 4294967296 + q2 = Q := ⟨_, rfl⟩
  rw [hQ] at a4 ⊢
  clear e hw a1 a2 hQ
  constructor <;> omega
theorem d_w (u v w : Nat) (hv : v < 4294967296) (hw : u % 3276800000 * 4294967296 + v = w) : w < 14073748835532800000 := by omega
theorem d_vb (lo v : Nat) (hv : lo % 131072 * 32768 = v) : v < 4294967296 := by omega
theorem d_ub (hi lo u : Nat) (hh : hi < 100000) (hl : lo < 18446744073709551616) (hu : hi * 140737488355328 + lo / 131072 = u) : u < 14073748835532800000 := by omega
theorem d_q1 (u : Nat) (hub : u < 14073748835532800000) : u / 3276800000 < 4294967296 := by omega
theorem d_u3 (hi lo : Nat) (hh : hi < 100000) (hl : lo < 18446744073709551616) : ior .u64 (ishl .u64 (hi : Int) ((47 : Nat) : Int).toNat) (ishr .u64 (lo : Int) 17) = ((hi * 140737488355328 + lo / 131072 : Nat) : Int) := by
  rw [show ((47 : Nat) : Int).toNat = 47 from rfl, u_shl 47 (by decide), u_shr 17 (by decide), u_or (by omega) (by omega)]
  have a1 : hi * 2 ^ 47 % 18446744073709551616 = hi * 2 ^ 47 := by omega
  rw [a1, or_add (n := 47) (by omega)]
theorem d_u1 (lo : Nat) (hl : lo < 18446744073709551616) : ishr .u64 (ishl .u64 (lo : Int) ((47 : Nat) : Int).toNat) (Int.ofNat 32).toNat = ((lo % 131072 * 32768 : Nat) : Int) := by
  rw [show ((47 : Nat) : Int).toNat = 47 from rfl, u_shl 47 (by decide)]
  show ishr .u64 _ 32 = _
  rw [u_shr 32 (by decide)]
  congr 1
  omega
theorem d_u0 (lo : Nat) (hl : lo < 18446744073709551616) : iand .u64 (ishl .u64 (lo : Int) ((47 : Nat) : Int).toNat) (Int.ofNat 4294967295) = ((0 : Nat) : Int) := by
  rw [show ((47 : Nat) : Int).toNat = 47 from rfl, u_shl 47 (by decide), u_mask (by omega)]
  congr 1
  omega
theorem div64_ok (hi lo : Nat) (hh : hi < 100000) (hl : lo < 18446744073709551616) :
    Pur F0 185 [U hi, U lo, U (100000 : Nat)] [] .no (.ret (.tup [U ((hi * 18446744073709551616 + lo) / 100000 : Nat), U ((hi * 18446744073709551616 + lo) % 100000 : Nat)])) .no := by
  refine pur_code (cf := cfn Tryz.f185) (by kernel_rfl) ?_
  conv => arg 3; reduce
  conv => whnf
  have t1 : ieq ((100000 : Nat) : Int) (Int.ofNat 0) = false := by rw [ieq_f]; decide
  have t2 : ile ((100000 : Nat) : Int) (hi : Int) = false := by rw [ile_f]; omega
  have t3 : iz ((100000 : Nat) : Int) = false := iz_u (by decide)
  by_cases h0 : hi = 0
  · subst h0
    have t4 : ieq ((0 : Nat) : Int) (Int.ofNat 0) = true := by rw [ieq_t]; rfl
    repeat' (first
      | (refine vb_t rfl ?_; conv => whnf)
      | (refine vb_f rfl ?_; conv => whnf)
      | (refine vb_t (by assumption) ?_; conv => whnf)
      | (refine vb_f (by assumption) ?_; conv => whnf)
      | (refine vpur_i lz_ok ?_; conv => whnf)
      | fail)
    refine ⟨?_, rfl⟩
    rw [u_quo hl, u_rem, Nat.zero_mul, Nat.zero_add]
  · have t4 : ieq (hi : Int) (Int.ofNat 0) = false := by rw [ieq_f]; simp only [Int.ofNat_eq_natCast]; omega
    have t5 : decide (0 ≤ icast IntKind.u64 47) = true := by rw [c47]; decide
    have t6 : decide (0 ≤ isub IntKind.u64 (Int.ofNat 64) (icast IntKind.u64 47)) = true := by rw [c47, Int.ofNat_eq_natCast, u_sub (by decide) (by decide)]; decide
    have y1 : ishr .u64 (ishl .u64 ((100000 : Nat) : Int) (icast .u64 47).toNat) (Int.ofNat 32).toNat = ((3276800000 : Nat) : Int) := by rw [y47]; exact u_shr 32 (by decide)
    have y0 : iand .u64 (ishl .u64 ((100000 : Nat) : Int) (icast .u64 47).toNat) (Int.ofNat 4294967295) = ((0 : Nat) : Int) := by rw [y47, u_mask (by decide)]
    have t7 : iz (ishr IntKind.u64 (ishl IntKind.u64 ((100000 : Nat) : Int) (icast IntKind.u64 47).toNat) (Int.ofNat 32).toNat) = false := by rw [y1]; exact iz_u (by decide)
    have s64 : (isub IntKind.u64 (Int.ofNat 64) (icast IntKind.u64 47)).toNat = 17 := by rw [c47, Int.ofNat_eq_natCast, u_sub (by decide) (by decide)]; decide
    have u3 : ior .u64 (ishl .u64 (hi : Int) (icast .u64 47).toNat) (ishr .u64 (lo : Int) (isub .u64 (Int.ofNat 64) (icast .u64 47)).toNat) = ((hi * 140737488355328 + lo / 131072 : Nat) : Int) := by
      rw [s64, c47]; exact d_u3 hi lo hh hl
    have u1 : ishr .u64 (ishl .u64 (lo : Int) (icast .u64 47).toNat) (Int.ofNat 32).toNat = ((lo % 131072 * 32768 : Nat) : Int) := by rw [c47]; exact d_u1 lo hl
    have u0 : iand .u64 (ishl .u64 (lo : Int) (icast .u64 47).toNat) (Int.ofNat 4294967295) = ((0 : Nat) : Int) := by rw [c47]; exact d_u0 lo hl
    repeat' (first
      | (refine vb_t rfl ?_; conv => whnf)
      | (refine vb_f rfl ?_; conv => whnf)
      | (refine vb_t (by assumption) ?_; conv => whnf)
      | (refine vb_f (by assumption) ?_; conv => whnf)
      | (refine vpur_i lz_ok ?_; conv => whnf)
      | fail)
    obtain ⟨u, hu⟩ : ∃ u : Nat, hi * 140737488355328 + lo / 131072 = u := ⟨_, rfl⟩
    obtain ⟨v, hv⟩ : ∃ v : Nat, lo % 131072 * 32768 = v := ⟨_, rfl⟩
    rw [hu] at u3
    rw [hv] at u1
    have hub := d_ub hi lo u hh hl hu
    have hvb := d_vb lo v hv
    refine vloop_eq2 (fr' := [(2, U (14073748835532800000 : Nat)), (6, U (Int.ofNat 0)), (7, U (Int.ofNat 0)), (8, U (47 : Nat)), (9, U (3276800000 : Nat)), (10, U (0 : Nat)), (11, U u), (13, U v), (14, U (0 : Nat)), (15, U (u / 3276800000 : Nat)), (16, U (u % 3276800000 : Nat))]) (h' := []) ?_ rfl ?_
    · rw [u3, u1, u0, y0, y1, y47, d_q u hub, d_r u hub, c47]
    have z1 := d_z1 u hub
    refine vloop_by (σ := Unit) (fun _ => [(2, U (14073748835532800000 : Nat)), (6, U (Int.ofNat 0)), (7, U (Int.ofNat 0)), (8, U (47 : Nat)), (9, U (3276800000 : Nat)), (10, U (0 : Nat)), (11, U u), (13, U v), (14, U (0 : Nat)), (15, U (u / 3276800000 : Nat)), (16, U (u % 3276800000 : Nat))]) (fun _ => []) (fun _ => 0) ?_ ()
    intro _
    conv => whnf
    have t8 : iz ((3276800000 : Nat) : Int) = false := iz_u (by decide)
    repeat' (first
      | (refine vb_t rfl ?_; conv => whnf)
      | (refine vb_f rfl ?_; conv => whnf)
      | (refine vb_t (by assumption) ?_; conv => whnf)
      | (refine vb_f (by assumption) ?_; conv => whnf)
      | (refine vb_f (d_z2 _ _ _) ?_; conv => whnf)
      | fail)
    obtain ⟨w, hw⟩ : ∃ w : Nat, u % 3276800000 * 4294967296 + v = w := ⟨_, rfl⟩
    have hwb := d_w u v w hvb hw
    have e1 := d_un u v hub hvb
    rw [hw] at e1
    refine vloop_eq2 (fr' := [(2, U (14073748835532800000 : Nat)), (6, U (Int.ofNat 0)), (7, U (Int.ofNat 0)), (8, U (47 : Nat)), (9, U (3276800000 : Nat)), (10, U (0 : Nat)), (14, U (0 : Nat)), (15, U (u / 3276800000 : Nat)), (16, U (w % 3276800000 : Nat)), (17, U w), (18, U (w / 3276800000 : Nat))]) (h' := []) ?_ rfl ?_
    · rw [e1, d_q w hwb, d_r w hwb]
    have z3 := d_z1 w hwb
    refine vloop_by (σ := Unit) (fun _ => [(2, U (14073748835532800000 : Nat)), (6, U (Int.ofNat 0)), (7, U (Int.ofNat 0)), (8, U (47 : Nat)), (9, U (3276800000 : Nat)), (10, U (0 : Nat)), (14, U (0 : Nat)), (15, U (u / 3276800000 : Nat)), (16, U (w % 3276800000 : Nat)), (17, U w), (18, U (w / 3276800000 : Nat))]) (fun _ => []) (fun _ => 0) ?_ ()
    intro _
    conv => whnf
    repeat' (first
      | (refine vb_t rfl ?_; conv => whnf)
      | (refine vb_f rfl ?_; conv => whnf)
      | (refine vb_t (by assumption) ?_; conv => whnf)
      | (refine vb_f (by assumption) ?_; conv => whnf)
      | (refine vb_f (d_z2 0 _ _) ?_; conv => whnf)
      | fail)
    obtain ⟨f1, f2⟩ := d_fin hi lo u v w hh hl hu hv hw
    have e3 := d_end (u / 3276800000) (w / 3276800000) 0 (d_q1 u hub) (d_q1 w hwb)
    refine ⟨?_, rfl⟩
    rw [e3, d_rem w hwb, d_shr, f1, f2]
end Go.Proofs.YtapnjabhcdlhbaaGreatDoor.Ab
