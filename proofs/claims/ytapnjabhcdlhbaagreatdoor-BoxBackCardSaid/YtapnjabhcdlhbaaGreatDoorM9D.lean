/- Some texts as one, one behind the other; what is not leaned on is left out. -/
import Derived.Test.YtapnjabhcdlhbaaGreatDoorM9A
import Derived.Test.YtapnjabhcdlhbaaGreatDoorAbSome
import Derived.Test.YtapnjabhcdlhbaaGreatDoorC00z
import Derived.Test.YtapnjabhcdlhbaaGreatDoorM9C
import Derived.Test.YtapnjabhcdlhbaaGreatDoorM9B
namespace Go.Proofs.YtapnjabhcdlhbaaGreatDoor.Ab
open Go
set_option linter.unusedSimpArgs false
set_option maxRecDepth 100000
set_option linter.unusedVariables false
set_option maxHeartbeats 4000000
theorem ia0 : iadd .i64 (Int.ofNat 0) (Int.ofNat 1) = Int.ofNat 1 := by rw [iadd64] <;> decide
theorem ia1 : iadd .i64 (Int.ofNat 1) (Int.ofNat 1) = Int.ofNat 2 := by rw [iadd64] <;> decide
theorem ia2 : iadd .i64 (Int.ofNat 2) (Int.ofNat 1) = Int.ofNat 3 := by rw [iadd64] <;> decide
theorem ia3 : iadd .i64 (Int.ofNat 3) (Int.ofNat 1) = Int.ofNat 4 := by rw [iadd64] <;> decide
theorem lt4 : ilt (Int.ofNat 0) (Int.ofNat 4) = true ∧ ilt (Int.ofNat 1) (Int.ofNat 4) = true ∧ ilt (Int.ofNat 2) (Int.ofNat 4) = true ∧ ilt (Int.ofNat 3) (Int.ofNat 4) = true ∧ ilt (Int.ofNat 4) (Int.ofNat 4) = false := by
  simp only [ilt_t, ilt_f]; decide
theorem in4 : (ile 0 (Int.ofNat 0) && ilt (Int.ofNat 0) (Int.ofNat 4)) = true ∧ (ile 0 (Int.ofNat 1) && ilt (Int.ofNat 1) (Int.ofNat 4)) = true ∧ (ile 0 (Int.ofNat 2) && ilt (Int.ofNat 2) (Int.ofNat 4)) = true ∧ (ile 0 (Int.ofNat 3) && ilt (Int.ofNat 3) (Int.ofNat 4)) = true := by
  simp only [Bool.and_eq_true, ile_t, ilt_t]; decide
/-- Four of one to four. -/
abbrev LR (k n : Int) : List DV := [.int .i64 k, .int .i64 n]
theorem imx1 : imax (Int.ofNat 0) (isub .i64 (Int.ofNat 1) (Int.ofNat 2)) = Int.ofNat 0 := by rw [isub64 (by decide) (by decide)]; unfold imax; rfl
theorem imx2 : imax (Int.ofNat 0) (isub .i64 (Int.ofNat 2) (Int.ofNat 2)) = Int.ofNat 0 := by rw [isub64 (by decide) (by decide)]; unfold imax; rfl
theorem imx3 : imax (Int.ofNat 0) (isub .i64 (Int.ofNat 3) (Int.ofNat 2)) = Int.ofNat 1 := by rw [isub64 (by decide) (by decide)]; unfold imax; rfl
theorem ltN : ilt (Int.ofNat 0) ((1 : Nat) : Int) = true ∧ ilt (Int.ofNat 1) ((1 : Nat) : Int) = false ∧ ilt (Int.ofNat 2) ((1 : Nat) : Int) = false ∧ ilt (Int.ofNat 3) ((1 : Nat) : Int) = false ∧
    ilt (Int.ofNat 0) ((2 : Nat) : Int) = true ∧ ilt (Int.ofNat 1) ((2 : Nat) : Int) = true ∧ ilt (Int.ofNat 2) ((2 : Nat) : Int) = false ∧ ilt (Int.ofNat 3) ((2 : Nat) : Int) = false ∧
    ilt (Int.ofNat 0) ((3 : Nat) : Int) = true ∧ ilt (Int.ofNat 1) ((3 : Nat) : Int) = true ∧ ilt (Int.ofNat 2) ((3 : Nat) : Int) = true ∧ ilt (Int.ofNat 3) ((3 : Nat) : Int) = false := by
  simp only [ilt_t, ilt_f]; decide
theorem four1_ok (k0 n0 : Int) : Pur F0 59 [.d (.sl 2 [LR k0 n0])] [] .no (.ret (.agg [I k0, I n0, I k0, I n0, I k0, I n0, I k0, I n0])) .no := by
  refine pur_code code59_ok ?_
  conv => whnf
  obtain ⟨a0, a1, a2, a3, a4⟩ := lt4
  obtain ⟨b0, b1, b2, b3⟩ := in4
  obtain ⟨c10, c11, c12, c13, c20, c21, c22, c23, c30, c31, c32, c33⟩ := ltN
  repeat' (first
    | (refine vb_t rfl ?_; conv => whnf)
    | (refine vb_f rfl ?_; conv => whnf)
    | (refine vb_t (by assumption) ?_; conv => whnf)
    | (refine vb_f (by assumption) ?_; conv => whnf)
    | (simp only [ia0, ia1, ia2, ia3, imx1, imx2, imx3]; conv => whnf)
    | (refine vloop_once ?_; conv => whnf)
    | (refine vo_i (iget_t rfl) ?_; conv => whnf)
    | fail)
  exact ⟨by trivial, by trivial⟩
theorem four2_ok (k0 n0 k1 n1 : Int) : Pur F0 59 [.d (.sl 2 [LR k0 n0, LR k1 n1])] [] .no (.ret (.agg [I k0, I n0, I k1, I n1, I k0, I n0, I k1, I n1])) .no := by
  refine pur_code code59_ok ?_
  conv => whnf
  obtain ⟨a0, a1, a2, a3, a4⟩ := lt4
  obtain ⟨b0, b1, b2, b3⟩ := in4
  obtain ⟨c10, c11, c12, c13, c20, c21, c22, c23, c30, c31, c32, c33⟩ := ltN
  repeat' (first
    | (refine vb_t rfl ?_; conv => whnf)
    | (refine vb_f rfl ?_; conv => whnf)
    | (refine vb_t (by assumption) ?_; conv => whnf)
    | (refine vb_f (by assumption) ?_; conv => whnf)
    | (simp only [ia0, ia1, ia2, ia3, imx1, imx2, imx3]; conv => whnf)
    | (refine vloop_once ?_; conv => whnf)
    | (refine vo_i (iget_t rfl) ?_; conv => whnf)
    | fail)
  exact ⟨by trivial, by trivial⟩
theorem four3_ok (k0 n0 k1 n1 k2 n2 : Int) : Pur F0 59 [.d (.sl 2 [LR k0 n0, LR k1 n1, LR k2 n2])] [] .no (.ret (.agg [I k0, I n0, I k1, I n1, I k2, I n2, I k1, I n1])) .no := by
  refine pur_code code59_ok ?_
  conv => whnf
  obtain ⟨a0, a1, a2, a3, a4⟩ := lt4
  obtain ⟨b0, b1, b2, b3⟩ := in4
  obtain ⟨c10, c11, c12, c13, c20, c21, c22, c23, c30, c31, c32, c33⟩ := ltN
  repeat' (first
    | (refine vb_t rfl ?_; conv => whnf)
    | (refine vb_f rfl ?_; conv => whnf)
    | (refine vb_t (by assumption) ?_; conv => whnf)
    | (refine vb_f (by assumption) ?_; conv => whnf)
    | (simp only [ia0, ia1, ia2, ia3, imx1, imx2, imx3]; conv => whnf)
    | (refine vloop_once ?_; conv => whnf)
    | (refine vo_i (iget_t rfl) ?_; conv => whnf)
    | fail)
  exact ⟨by trivial, by trivial⟩
theorem ltN4 : ilt (Int.ofNat 0) ((4 : Nat) : Int) = true ∧ ilt (Int.ofNat 1) ((4 : Nat) : Int) = true ∧ ilt (Int.ofNat 2) ((4 : Nat) : Int) = true ∧ ilt (Int.ofNat 3) ((4 : Nat) : Int) = true := by
  simp only [ilt_t, ilt_f]; decide
theorem four4_ok (k0 n0 k1 n1 k2 n2 k3 n3 : Int) : Pur F0 59 [.d (.sl 2 [LR k0 n0, LR k1 n1, LR k2 n2, LR k3 n3])] [] .no (.ret (.agg [I k0, I n0, I k1, I n1, I k2, I n2, I k3, I n3])) .no := by
  obtain ⟨d0, d1, d2, d3⟩ := ltN4
  refine pur_code code59_ok ?_
  conv => whnf
  obtain ⟨a0, a1, a2, a3, a4⟩ := lt4
  obtain ⟨b0, b1, b2, b3⟩ := in4
  obtain ⟨c10, c11, c12, c13, c20, c21, c22, c23, c30, c31, c32, c33⟩ := ltN
  repeat' (first
    | (refine vb_t rfl ?_; conv => whnf)
    | (refine vb_f rfl ?_; conv => whnf)
    | (refine vb_t (by assumption) ?_; conv => whnf)
    | (refine vb_f (by assumption) ?_; conv => whnf)
    | (simp only [ia0, ia1, ia2, ia3, imx1, imx2, imx3]; conv => whnf)
    | (refine vloop_once ?_; conv => whnf)
    | (refine vo_i (iget_t rfl) ?_; conv => whnf)
    | fail)
  exact ⟨by trivial, by trivial⟩
end Go.Proofs.YtapnjabhcdlhbaaGreatDoor.Ab
namespace Go.Proofs.YtapnjabhcdlhbaaGreatDoor.Ab
open Go
set_option linter.unusedSimpArgs false
set_option maxRecDepth 100000
set_option linter.unusedVariables false
set_option maxHeartbeats 4000000
def alText (k : Int) : List UInt8 := if k = 1 then [97, 117, 116, 111] else if k = 2 then [110, 111, 114, 109, 97, 108] else if k = 3 then [115, 116, 97, 114, 116] else if k = 4 then [101, 110, 100] else if k = 5 then [99, 101, 110, 116, 101, 114] else if k = 6 then [115, 116, 114, 101, 116, 99, 104] else if k = 7 then [115, 112, 97, 99, 101, 45, 98, 101, 116, 119, 101, 101, 110] else if k = 8 then [115, 112, 97, 99, 101, 45, 97, 114, 111, 117, 110, 100] else if k = 9 then [115, 112, 97, 99, 101, 45, 101, 118, 101, 110, 108, 121] else []
def alGood (k s : Int) : Bool := decide (k = 1 ∧ s = 1 ∨ (2 ≤ k ∧ k ≤ 6) ∧ 1 ≤ s ∧ s ≤ 3 ∨ (7 ≤ k ∧ k ≤ 9) ∧ s = 3)
theorem lit8 : Int.ofNat 8 = 8 := rfl
theorem lit9 : Int.ofNat 9 = 9 := rfl
theorem alText_ok (k : Int) : Pur F0 53 [I k] [] .no (.ret (S (alText k))) .no := by
  refine pur_code code53_ok ?_
  conv => whnf
  repeat' (first
    | (refine vb_t rfl ?_; conv => whnf)
    | (refine vb_f rfl ?_; conv => whnf)
    | (refine vb_t (by assumption) ?_; conv => whnf)
    | (refine vb_f (by assumption) ?_; conv => whnf)
    | (refine vb_i (fun h => ?_) (fun h => ?_) <;> conv => whnf)
    | fail)
  all_goals refine ⟨congrArg CR.ret (S_eq ?_), by trivial⟩
  all_goals simp only [ieq_t, ieq_f, lit1, lit2, lit3, lit4, lit5, lit6, lit7, lit8, lit9] at *
  all_goals (unfold alText; simp_all)
theorem alText_nil (k : Int) : alText k = [] ↔ ¬ (1 ≤ k ∧ k ≤ 9) := by
  constructor
  · intro h hk
    have : k = 1 ∨ k = 2 ∨ k = 3 ∨ k = 4 ∨ k = 5 ∨ k = 6 ∨ k = 7 ∨ k = 8 ∨ k = 9 := by omega
    rcases this with rfl | rfl | rfl | rfl | rfl | rfl | rfl | rfl | rfl <;> simp [alText] at h
  · intro hk; unfold alText; (repeat rw [if_neg (by omega)])
theorem alGood_ok (k s : Int) : Pur F0 51 [I k, I s] [] .no (.ret (B (alGood k s))) .no := by
  refine pur_code code51_ok ?_
  conv => whnf
  repeat' (first
    | (refine vb_t rfl ?_; conv => whnf)
    | (refine vb_f rfl ?_; conv => whnf)
    | (refine vb_t (by assumption) ?_; conv => whnf)
    | (refine vb_f (by assumption) ?_; conv => whnf)
    | (refine vpur_i (alText_ok _) ?_; conv => whnf)
    | (refine vb_i (fun h => ?_) (fun h => ?_) <;> conv => whnf)
    | fail)
  all_goals refine ⟨congrArg CR.ret (congrArg AV.d (congrArg DV.bool ?_)), by trivial⟩
  all_goals unfold alGood
  all_goals simp only [ieq_t, ieq_f, ieq_d, ile_t, ile_f, ile_d, ilt_d, lit1, lit2, lit3, lit4, lit5, lit6, lit7, lit8, lit9, Bool.not_eq_true', Bool.not_eq_false', seq_t, seq_f, ne_eq, alText_nil, decide_eq_true_eq, decide_eq_false_iff_not] at *
  all_goals first
    | (rw [decide_eq_decide]; omega)
    | omega
    | (rw [eq_comm, decide_eq_false_iff_not]; omega)
    | (rw [eq_comm, decide_eq_true_eq]; omega)
end Go.Proofs.YtapnjabhcdlhbaaGreatDoor.Ab
namespace Go.Proofs.YtapnjabhcdlhbaaGreatDoor.Ab
open Go
set_option linter.unusedSimpArgs false
set_option maxRecDepth 100000
set_option linter.unusedVariables false
set_option maxHeartbeats 4000000
def lenRow (p : Int × Int) : List DV := LR p.1 p.2
/-- Sizes read, as long as there are any, up to so many. -/
def someS (rd : Int → Int × Int × Int × Int) : Nat → List (Int × Int) → Int → List (Int × Int) × Int × Int
  | 0, acc, a => (acc, a, 0)
  | f + 1, acc, a => if (rd a).2.2.2 = 50 ∧ acc ≠ [] then (acc, a, 0) else if (rd a).2.2.2 ≠ 0 then ([], (rd a).2.2.1, (rd a).2.2.2) else someS rd f (acc ++ [((rd a).1, (rd a).2.1)]) (rd a).2.2.1
theorem someS_len (rd : Int → Int × Int × Int × Int) : ∀ (f : Nat) (acc : List (Int × Int)) (a : Int), (someS rd f acc a).2.2 = 0 → acc.length ≤ (someS rd f acc a).1.length ∧ (someS rd f acc a).1.length ≤ acc.length + f ∧ (0 < f → (someS rd f acc a).1 ≠ [])
  | 0, acc, a, h => ⟨Nat.le_refl _, Nat.le_refl _, fun h => by omega⟩
  | f + 1, acc, a, h => by
    unfold someS at h ⊢
    by_cases h1 : (rd a).2.2.2 = 50 ∧ acc ≠ []
    · rw [if_pos h1]
      exact ⟨Nat.le_refl _, by show acc.length ≤ _; omega, fun _ => h1.2⟩
    · rw [if_neg h1] at h ⊢
      by_cases h2 : (rd a).2.2.2 ≠ 0
      · rw [if_pos h2] at h
        exact (h2 h).elim
      · rw [if_neg h2] at h ⊢
        obtain ⟨g1, g2, g3⟩ := someS_len rd f _ _ h
        rw [List.length_append, List.length_singleton] at g1 g2
        exact ⟨by omega, by omega, fun _ e => by rw [e] at g1; simp at g1⟩
def lensD (l : List (Int × Int)) : DV := match l with
  | [] => .nilsl
  | l => .sl 2 (l.map lenRow)
def lensV : Option (Nat × List (Int × Int)) → AV
  | none => .d .nilsl
  | some (g, l) => .osl 0 g 0 l.length
def lensH (ty : Nat) : Option (Nat × List (Int × Int)) → Heap
  | none => []
  | some (g, l) => [⟨.mine, ty, .arr true g 2 (l.map lenRow)⟩]
def lens : Option (Nat × List (Int × Int)) → List (Int × Int)
  | none => []
  | some (_, l) => l
theorem lensD_ne {l : List (Int × Int)} (h : l ≠ []) : lensD l = .sl 2 (l.map lenRow) := by
  cases l with
  | nil => exact (h rfl).elim
  | cons a t => rfl
theorem len_snoc (l : List (Int × Int)) (k n : Int) : l.map lenRow ++ [[DV.int .i64 k, DV.int .i64 n]] = (l ++ [(k, n)]).map lenRow := by rw [List.map_append]; rfl
def rdS (l : List Tok) (allow : Int) (a : Int) : Int × Int × Int × Int := readS (wordS l a) a allow
def someA (R : List (Int × Int) × Int × Int) : AV := .tup [.d (lensD R.1), I R.2.1, I R.2.2]
theorem some_ok (l : List Tok) (v : DV) (hv : toksA l v) (hl : ∀ t ∈ l, tokOk t) (at_ allow : Int) (most : Nat) (hm : most ≤ 10) (hm0 : 0 < most) :
    Pur F0 58 [.d v, I at_, I allow, I (most : Int)] [] .no (.ret (someA (someS (rdS l allow) most [] at_))) .no := by
  have hrd := fun a => read_ok l v hv hl a allow
  obtain ⟨R, hR⟩ : ∃ R, someS (rdS l allow) most [] at_ = R := ⟨_, rfl⟩
  rw [hR]
  clear hv
  refine pur_code code58_ok ?_
  conv => whnf
  refine vloop_by (σ := { x : Option (Nat × List (Int × Int)) × Int × Nat // (lens x.1).length + x.2.2 = most ∧ someS (rdS l allow) x.2.2 (lens x.1) x.2.1 = R ∧ (x.1 = none ∨ lens x.1 ≠ []) })
    (fun x => [(0, .d v), (2, I allow), (3, I (most : Int)), (8, lensV x.1.1), (9, I x.1.2.1), (10, I (Int.ofNat 0))]) (fun x => lensH 26 x.1.1) (fun x => x.1.2.2) ?_ ⟨(none, at_, most), by simp [lens], hR, .inl rfl⟩
  rintro ⟨⟨x, a, f⟩, hf, hs, hne⟩
  simp only at hf hs hne
  obtain ⟨⟨k, n, nx, e⟩, hr⟩ : ∃ r, rdS l allow a = r := ⟨_, rfl⟩
  have hread := hrd a
  have hr' : readS (wordS l a) a allow = (k, n, nx, e) := hr
  rw [hr'] at hread
  rcases x with _ | ⟨g, L⟩
  · have hf' : f = most := by simpa [lens] using hf
    subst hf'
    obtain ⟨f, rfl⟩ : ∃ m, f = m + 1 := ⟨f - 1, by omega⟩
    have hs2 : (if e = 50 ∧ ([] : List (Int × Int)) ≠ [] then (([], a, 0) : List (Int × Int) × Int × Int) else if e ≠ 0 then ([], nx, e) else someS (rdS l allow) f [(k, n)] nx) = R := by
      rw [← hs]; show _ = someS (rdS l allow) (f + 1) [] a; rw [someS, hr]; rfl
    rw [if_neg (fun h => h.2 rfl)] at hs2
    have q1 : ilt (0 : Int) ((f + 1 : Nat) : Int) = true := by rw [ilt_t]; omega
    have q2 : ilt (Int.ofNat 0) (0 : Int) = false := by rw [ilt_f]; decide
    conv => whnf
    by_cases he : e = 0
    · have z1 : ieq e (Int.ofNat 50) = false := by rw [ieq_f, he]; decide
      have z2 : (!ieq e (Int.ofNat 0)) = false := by rw [show ieq e (Int.ofNat 0) = true from by rw [ieq_t, he]; rfl]; rfl
      rw [if_neg (fun h => h he)] at hs2
      repeat' (first
        | (refine vb_t rfl ?_; conv => whnf)
        | (refine vb_f rfl ?_; conv => whnf)
        | (refine vb_t (by assumption) ?_; conv => whnf)
        | (refine vb_f (by assumption) ?_; conv => whnf)
        | (refine vpur_i hread ?_; conv => whnf)
        | (refine vb_t (room_t (by simp <;> omega)) ?_; conv => whnf)
        | fail)
      exact ⟨⟨(some (0, [(k, n)]), nx, f), by show 1 + f = f + 1; omega, hs2, .inr (by simp [lens])⟩, by simp only; omega, cons_eq rfl (cons_eq rfl (cons_eq rfl (cons_eq rfl (cons_eq rfl rfl)))), rfl, rfl, rfl⟩
    · rw [if_pos he] at hs2
      subst hs2
      have z2 : (!ieq e (Int.ofNat 0)) = true := by rw [show ieq e (Int.ofNat 0) = false from by rw [ieq_f]; exact he]; rfl
      by_cases h50 : e = 50
      · have z1 : ieq e (Int.ofNat 50) = true := by rw [ieq_t, h50]; rfl
        repeat' (first
          | (refine vb_t rfl ?_; conv => whnf)
          | (refine vb_f rfl ?_; conv => whnf)
          | (refine vb_t (by assumption) ?_; conv => whnf)
          | (refine vb_f (by assumption) ?_; conv => whnf)
          | (refine vpur_i hread ?_; conv => whnf)
          | fail)
        exact ⟨rfl, rfl⟩
      · have z1 : ieq e (Int.ofNat 50) = false := by rw [ieq_f]; exact h50
        repeat' (first
          | (refine vb_t rfl ?_; conv => whnf)
          | (refine vb_f rfl ?_; conv => whnf)
          | (refine vb_t (by assumption) ?_; conv => whnf)
          | (refine vb_f (by assumption) ?_; conv => whnf)
          | (refine vpur_i hread ?_; conv => whnf)
          | fail)
        exact ⟨rfl, rfl⟩
  · have hL0 : L ≠ [] := hne.resolve_left (fun h => by cases h)
    have hLl : L.length + f = most := hf
    have hLp := List.length_pos_iff.2 hL0
    have hq : ieq (L.length : Int) ((L.map lenRow).length : Int) = true := by rw [ieq_t]; simp
    have hgg : Nat.beq g g = true := by simp
    have hem : (L.map lenRow).isEmpty = false := by
      cases L with
      | nil => exact (hL0 rfl).elim
      | cons c t => rfl
    have hdr : ((L.map lenRow).take L.length).drop 0 = L.map lenRow := by rw [List.drop_zero, List.take_of_length_le (by simp)]
    have q2 : ilt (Int.ofNat 0) (L.length : Int) = true := by rw [ilt_t, ofn]; omega
    conv => whnf
    cases f with
    | zero =>
      have hs2 : (L, a, (0 : Int)) = R := hs
      subst hs2
      have q1 : ilt (L.length : Int) (most : Int) = false := by rw [ilt_f]; omega
      repeat' (first
        | (refine vb_t rfl ?_; conv => whnf)
        | (refine vb_f rfl ?_; conv => whnf)
        | (refine vb_t (by assumption) ?_; conv => whnf)
        | (refine vb_f (by assumption) ?_; conv => whnf)
        | fail)
      refine ⟨congrArg CR.ret ?_, rfl⟩
      show AV.tup [.d (.sl 2 (((L.map lenRow).take L.length).drop 0)), I a, I 0] = _
      unfold someA
      rw [hdr, lensD_ne hL0]
    | succ f =>
      have q1 : ilt (L.length : Int) (most : Int) = true := by rw [ilt_t]; omega
      have hs2 : (if e = 50 ∧ L ≠ [] then ((L, a, 0) : List (Int × Int) × Int × Int) else if e ≠ 0 then ([], nx, e) else someS (rdS l allow) f (L ++ [(k, n)]) nx) = R := by
        rw [← hs]; show _ = someS (rdS l allow) (f + 1) L a; rw [someS, hr]
      by_cases he : e = 0
      · have z1 : ieq e (Int.ofNat 50) = false := by rw [ieq_f, he]; decide
        have z2 : (!ieq e (Int.ofNat 0)) = false := by rw [show ieq e (Int.ofNat 0) = true from by rw [ieq_t, he]; rfl]; rfl
        rw [if_neg (fun h => by rw [he] at h; exact absurd h.1 (by decide)), if_neg (fun h => h he)] at hs2
        repeat' (first
          | (refine vb_t rfl ?_; conv => whnf)
          | (refine vb_f rfl ?_; conv => whnf)
          | (refine vb_t (by assumption) ?_; conv => whnf)
          | (refine vb_f (by assumption) ?_; conv => whnf)
          | (refine vpur_i hread ?_; conv => whnf)
          | (refine vb_t (room_t (by simp <;> omega)) ?_; conv => whnf)
          | fail)
        exact ⟨⟨(some (g + 1, L ++ [(k, n)]), nx, f), by show (L ++ [(k, n)]).length + f = most; rw [List.length_append, List.length_singleton]; omega, hs2, .inr (by simp [lens])⟩, by simp only; omega,
          cons_eq rfl (cons_eq rfl (cons_eq rfl (cons_eq (slot_eq (osl_eq rfl (by simp))) (cons_eq rfl rfl)))), cons_eq (arr_eq (len_snoc L k n)) rfl, rfl, rfl⟩
      · have z2 : (!ieq e (Int.ofNat 0)) = true := by rw [show ieq e (Int.ofNat 0) = false from by rw [ieq_f]; exact he]; rfl
        by_cases h50 : e = 50
        · have z1 : ieq e (Int.ofNat 50) = true := by rw [ieq_t, h50]; rfl
          rw [if_pos ⟨h50, hL0⟩] at hs2
          subst hs2
          repeat' (first
            | (refine vb_t rfl ?_; conv => whnf)
            | (refine vb_f rfl ?_; conv => whnf)
            | (refine vb_t (by assumption) ?_; conv => whnf)
            | (refine vb_f (by assumption) ?_; conv => whnf)
            | (refine vpur_i hread ?_; conv => whnf)
            | fail)
          refine ⟨congrArg CR.ret ?_, rfl⟩
          show AV.tup [.d (.sl 2 (((L.map lenRow).take L.length).drop 0)), I a, I 0] = _
          unfold someA
          rw [hdr, lensD_ne hL0]
        · have z1 : ieq e (Int.ofNat 50) = false := by rw [ieq_f]; exact h50
          rw [if_neg (fun h => h50 h.1), if_pos he] at hs2
          subst hs2
          repeat' (first
            | (refine vb_t rfl ?_; conv => whnf)
            | (refine vb_f rfl ?_; conv => whnf)
            | (refine vb_t (by assumption) ?_; conv => whnf)
            | (refine vb_f (by assumption) ?_; conv => whnf)
            | (refine vpur_i hread ?_; conv => whnf)
            | fail)
          exact ⟨rfl, rfl⟩
end Go.Proofs.YtapnjabhcdlhbaaGreatDoor.Ab
namespace Go.Proofs.YtapnjabhcdlhbaaGreatDoor.Ab
open Go
set_option linter.unusedSimpArgs false
set_option maxRecDepth 100000
set_option linter.unusedVariables false
set_option maxHeartbeats 4000000
def wsRow (s : List UInt8) : List DV := [.str s]
theorem ws_row (l : List (List UInt8)) (i : Nat) {w : List UInt8} (h : l[i]? = some w) : iget (l.map wsRow) (i : Int) = some (wsRow w) := iget_t (by rw [List.getElem?_map, h]; rfl)
theorem kwFrom_hit {s : List UInt8} {ws : List (List UInt8)} {i : Nat} {w : List UInt8} (hw : ws[i]? = some w) (hm : lower s = lower w) : kwFrom s (ws.drop i) i = (i : Int) := by
  have hl := (List.getElem?_eq_some_iff.1 hw).1
  rw [List.drop_eq_getElem_cons hl, (List.getElem?_eq_some_iff.1 hw).2, kwFrom, if_pos hm]
theorem kwFrom_miss {s : List UInt8} {ws : List (List UInt8)} {i : Nat} {w : List UInt8} (hw : ws[i]? = some w) (hm : ¬ lower s = lower w) : kwFrom s (ws.drop i) i = kwFrom s (ws.drop (i + 1)) (i + 1) := by
  have hl := (List.getElem?_eq_some_iff.1 hw).1
  rw [List.drop_eq_getElem_cons hl, (List.getElem?_eq_some_iff.1 hw).2, kwFrom, if_neg hm]
theorem kwA_hit {t : Tok} {ws : List (List UInt8)} {i : Nat} (at_ : Int) (hk : t.kind = 1) (h : kwFrom t.text ws 0 = (i : Int)) : kwA t ws at_ = .tup [I (i : Int), I (iadd .i64 at_ 1)] := by
  unfold kwA kwS; rw [if_pos hk, h, if_neg (by omega)]
theorem kwA_miss {t : Tok} {ws : List (List UInt8)} (at_ : Int) (h : t.kind = 1 → kwFrom t.text ws 0 = -1) : kwA t ws at_ = .tup [I (-1), I at_] := by
  have : kwS t ws = -1 := by
    unfold kwS; split
    · rename_i hk; exact h hk
    · rfl
  unfold kwA; rw [this, if_pos rfl]
theorem keyword_ok (l : List Tok) (v : DV) (hv : toksA l v) (hl : ∀ t ∈ l, tokOk t) (at_ : Int) (ws : List (List UInt8)) (hws : ∀ w ∈ ws, w.length ≤ 1000) (hn : ws.length ≤ 1000) :
    Pur F0 62 [.d v, I at_, .d (.sl 1 (ws.map wsRow))] [] .no (.ret (kwA (wordS l at_) ws at_)) .no := by
  have ht := word_ok l v hv at_
  obtain ⟨h1, h2⟩ := wordS_ok hl at_
  generalize wordS l at_ = t at *
  refine pur_code code62_ok ?_
  conv => whnf
  by_cases k1 : t.kind = 1
  case neg =>
    have q2 : ieq t.kind (Int.ofNat 1) = false := by rw [ieq_f]; exact k1
    rw [kwA_miss at_ (fun k => (k1 k).elim)]
    repeat' (first
      | (refine vb_t rfl ?_; conv => whnf)
      | (refine vb_f rfl ?_; conv => whnf)
      | (refine vb_t (by assumption) ?_; conv => whnf)
      | (refine vb_f (by assumption) ?_; conv => whnf)
      | (refine vpur_i ht ?_; conv => whnf)
      | fail)
    exact ⟨rfl, rfl⟩
  have q2 : ieq t.kind (Int.ofNat 1) = true := by rw [ieq_t]; exact k1
  repeat' (first
    | (refine vb_t rfl ?_; conv => whnf)
    | (refine vb_f rfl ?_; conv => whnf)
    | (refine vb_t (by assumption) ?_; conv => whnf)
    | (refine vb_f (by assumption) ?_; conv => whnf)
    | (refine vpur_i ht ?_; conv => whnf)
    | fail)
  refine vloop_eq2 (fr' := [(1, I at_), (6, I (Int.ofNat 0)), (7, I (Int.ofNat 0)), (8, .ptr 0 0), (17, .d (.sl 1 (ws.map wsRow))), (18, I (ws.length : Int)), (19, I ((0 : Nat) : Int))]) (h' := [⟨.mine, 86, .fix [I t.kind, I t.at_, S t.text, S t.num]⟩]) ?_ rfl ?_
  · exact cons_eq rfl (cons_eq rfl (cons_eq rfl (cons_eq rfl (cons_eq rfl (cons_eq (slot_eq (I_eq (by rw [List.length_map]))) rfl)))))
  refine vloop_by (σ := { i : Nat // i ≤ ws.length ∧ kwFrom t.text (ws.drop i) i = kwFrom t.text ws 0 }) (fun i => [(1, I at_), (6, I (Int.ofNat 0)), (7, I (Int.ofNat 0)), (8, .ptr 0 0), (17, .d (.sl 1 (ws.map wsRow))), (18, I (ws.length : Int)), (19, I (i.1 : Int))])
    (fun _ => [⟨.mine, 86, .fix [I t.kind, I t.at_, S t.text, S t.num]⟩]) (fun i => ws.length - i.1) ?_ ⟨0, Nat.zero_le _, rfl⟩
  rintro ⟨i, hi, hno⟩
  conv => whnf
  by_cases hlt : i < ws.length
  · have q1 : ilt (i : Int) (ws.length : Int) = true := by rw [ilt_t]; omega
    obtain ⟨w, hw⟩ : ∃ w, ws[i]? = some w := ⟨ws[i], List.getElem?_eq_getElem hlt⟩
    have hg := ws_row ws i hw
    have hwl := hws w (List.mem_of_getElem? hw)
    have iw := is_ok t.text w (by omega) (by omega)
    by_cases hm : lower t.text = lower w
    · have q3 : seq (lower t.text) (lower w) = true := by rw [seq_t]; exact hm
      rw [kwA_hit at_ k1 (hno.symm.trans (kwFrom_hit hw hm))]
      repeat' (first
        | (refine vb_t rfl ?_; conv => whnf)
        | (refine vb_f rfl ?_; conv => whnf)
        | (refine vb_t (by assumption) ?_; conv => whnf)
        | (refine vb_f (by assumption) ?_; conv => whnf)
        | (refine vo_i hg ?_; conv => whnf)
        | (refine vpur_i iw ?_; conv => whnf)
        | fail)
      exact ⟨rfl, rfl⟩
    · have q3 : seq (lower t.text) (lower w) = false := by rw [seq_f]; exact hm
      repeat' (first
        | (refine vb_t rfl ?_; conv => whnf)
        | (refine vb_f rfl ?_; conv => whnf)
        | (refine vb_t (by assumption) ?_; conv => whnf)
        | (refine vb_f (by assumption) ?_; conv => whnf)
        | (refine vo_i hg ?_; conv => whnf)
        | (refine vpur_i iw ?_; conv => whnf)
        | fail)
      exact ⟨⟨i + 1, by omega, (kwFrom_miss hw hm).symm.trans hno⟩, by simp only; omega, cons_eq rfl (cons_eq rfl (cons_eq rfl (cons_eq rfl (cons_eq rfl (cons_eq rfl (cons_eq (slot_eq (I_eq (iadd_one (i := i) (by omega)))) rfl)))))), rfl, rfl, rfl⟩
  · have q1 : ilt (i : Int) (ws.length : Int) = false := by rw [ilt_f]; omega
    rw [kwA_miss at_ (fun k => by rw [← hno, List.drop_eq_nil_of_le (by omega)]; rfl)]
    repeat' (first
      | (refine vb_t rfl ?_; conv => whnf)
      | (refine vb_f rfl ?_; conv => whnf)
      | (refine vb_t (by assumption) ?_; conv => whnf)
      | (refine vb_f (by assumption) ?_; conv => whnf)
      | fail)
    exact ⟨rfl, rfl⟩
def fourI : List (Int × Int) → List Int
  | [(a, b)] => [a, b, a, b, a, b, a, b]
  | [(a, b), (c, d)] => [a, b, c, d, a, b, c, d]
  | [(a, b), (c, d), (e, f)] => [a, b, c, d, e, f, c, d]
  | [(a, b), (c, d), (e, f), (g, h)] => [a, b, c, d, e, f, g, h]
  | _ => [0, 0, 0, 0, 0, 0, 0, 0]
def marA (R : List (Int × Int) × Int × Int) : AV := .tup [.agg ((if R.2.2 = 0 then fourI R.1 else [0, 0, 0, 0, 0, 0, 0, 0]).map I), I R.2.1, I R.2.2]
theorem margin_ok (l : List Tok) (v : DV) (hv : toksA l v) (hl : ∀ t ∈ l, tokOk t) (at_ : Int) : Pur F0 12 [.d v, I at_] [] .no (.ret (marA (someS (rdS l 7) 4 [] at_))) .no := by
  have hs := some_ok l v hv hl at_ 7 4 (by decide) (by decide)
  obtain ⟨R, hR⟩ : ∃ R, someS (rdS l 7) 4 [] at_ = R := ⟨_, rfl⟩
  rw [hR] at hs ⊢
  by_cases he : R.2.2 = 0
  · have hlen := someS_len (rdS l 7) 4 [] at_ (by rw [hR]; exact he)
    rw [hR] at hlen
    obtain ⟨L, nx, e⟩ := R
    simp only at he hlen
    subst he
    obtain ⟨_, h2, h3⟩ := hlen
    have h2 : L.length ≤ 4 := by simpa using h2
    have z2 : (!ieq (0 : Int) (Int.ofNat 0)) = false := by rw [show ieq (0 : Int) (Int.ofNat 0) = true from by rw [ieq_t]; rfl]; rfl
    rcases L with _ | ⟨⟨a, b⟩, _ | ⟨⟨c, d⟩, _ | ⟨⟨e, f⟩, _ | ⟨⟨g, h⟩, _ | ⟨x, L⟩⟩⟩⟩⟩
    · exact (h3 (by decide) rfl).elim
    · refine pur_code code12_ok ?_
      conv => whnf
      repeat' (first
        | (refine vb_t rfl ?_; conv => whnf)
        | (refine vb_f rfl ?_; conv => whnf)
        | (refine vb_t (by assumption) ?_; conv => whnf)
        | (refine vb_f (by assumption) ?_; conv => whnf)
        | (refine vpur_i hs ?_; conv => whnf)
        | (refine vpur_i (four1_ok a b) ?_; conv => whnf)
        | fail)
      exact ⟨rfl, rfl⟩
    · refine pur_code code12_ok ?_
      conv => whnf
      repeat' (first
        | (refine vb_t rfl ?_; conv => whnf)
        | (refine vb_f rfl ?_; conv => whnf)
        | (refine vb_t (by assumption) ?_; conv => whnf)
        | (refine vb_f (by assumption) ?_; conv => whnf)
        | (refine vpur_i hs ?_; conv => whnf)
        | (refine vpur_i (four2_ok a b c d) ?_; conv => whnf)
        | fail)
      exact ⟨rfl, rfl⟩
    · refine pur_code code12_ok ?_
      conv => whnf
      repeat' (first
        | (refine vb_t rfl ?_; conv => whnf)
        | (refine vb_f rfl ?_; conv => whnf)
        | (refine vb_t (by assumption) ?_; conv => whnf)
        | (refine vb_f (by assumption) ?_; conv => whnf)
        | (refine vpur_i hs ?_; conv => whnf)
        | (refine vpur_i (four3_ok a b c d e f) ?_; conv => whnf)
        | fail)
      exact ⟨rfl, rfl⟩
    · refine pur_code code12_ok ?_
      conv => whnf
      repeat' (first
        | (refine vb_t rfl ?_; conv => whnf)
        | (refine vb_f rfl ?_; conv => whnf)
        | (refine vb_t (by assumption) ?_; conv => whnf)
        | (refine vb_f (by assumption) ?_; conv => whnf)
        | (refine vpur_i hs ?_; conv => whnf)
        | (refine vpur_i (four4_ok a b c d e f g h) ?_; conv => whnf)
        | fail)
      exact ⟨rfl, rfl⟩
    · simp only [List.length_cons] at h2; omega
  · obtain ⟨L, nx, e⟩ := R
    simp only at he
    have z2 : (!ieq e (Int.ofNat 0)) = true := by rw [show ieq e (Int.ofNat 0) = false from by rw [ieq_f]; exact he]; rfl
    have hM : marA (L, nx, e) = .tup [.agg [I 0, I 0, I 0, I 0, I 0, I 0, I 0, I 0], I nx, I e] := by unfold marA; rw [if_neg he]; rfl
    rw [hM]
    refine pur_code code12_ok ?_
    conv => whnf
    repeat' (first
      | (refine vb_t rfl ?_; conv => whnf)
      | (refine vb_f rfl ?_; conv => whnf)
      | (refine vb_t (by assumption) ?_; conv => whnf)
      | (refine vb_f (by assumption) ?_; conv => whnf)
      | (refine vpur_i hs ?_; conv => whnf)
      | fail)
    exact ⟨rfl, rfl⟩
def gapA (R : List (Int × Int) × Int × Int) : AV := .tup (match R.1 with
  | [(a, b)] => [.agg [I a, I b], .agg [I a, I b], I R.2.1, I R.2.2]
  | [(a, b), (c, d)] => [.agg [I a, I b], .agg [I c, I d], I R.2.1, I R.2.2]
  | _ => [.agg [I 0, I 0], .agg [I 0, I 0], I R.2.1, I R.2.2])
theorem someS_nil (rd : Int → Int × Int × Int × Int) : ∀ (f : Nat) (acc : List (Int × Int)) (a : Int), (someS rd f acc a).2.2 ≠ 0 → (someS rd f acc a).1 = []
  | 0, acc, a, h => (h rfl).elim
  | f + 1, acc, a, h => by
    unfold someS at h ⊢
    by_cases h1 : (rd a).2.2.2 = 50 ∧ acc ≠ []
    · rw [if_pos h1] at h; exact (h rfl).elim
    · rw [if_neg h1] at h ⊢
      by_cases h2 : (rd a).2.2.2 ≠ 0
      · rw [if_pos h2]
      · rw [if_neg h2] at h ⊢
        exact someS_nil rd f _ _ h
theorem gap_ok (l : List Tok) (v : DV) (hv : toksA l v) (hl : ∀ t ∈ l, tokOk t) (at_ : Int) : Pur F0 14 [.d v, I at_] [] .no (.ret (gapA (someS (rdS l 1) 2 [] at_))) .no := by
  have hs := some_ok l v hv hl at_ 1 2 (by decide) (by decide)
  obtain ⟨R, hR⟩ : ∃ R, someS (rdS l 1) 2 [] at_ = R := ⟨_, rfl⟩
  rw [hR] at hs ⊢
  by_cases he : R.2.2 = 0
  · have hlen := someS_len (rdS l 1) 2 [] at_ (by rw [hR]; exact he)
    rw [hR] at hlen
    obtain ⟨L, nx, e⟩ := R
    simp only at he hlen
    subst he
    obtain ⟨_, h2, h3⟩ := hlen
    have h2 : L.length ≤ 2 := by simpa using h2
    have z2 : (!ieq (0 : Int) (Int.ofNat 0)) = false := by rw [show ieq (0 : Int) (Int.ofNat 0) = true from by rw [ieq_t]; rfl]; rfl
    rcases L with _ | ⟨⟨a, b⟩, _ | ⟨⟨c, d⟩, _ | ⟨x, L⟩⟩⟩
    · exact (h3 (by decide) rfl).elim
    · have g0 : iget [LR a b] (Int.ofNat 0) = some (LR a b) := iget_t (n := 0) rfl
      have g1 : iget [LR a b] (isub .i64 (([LR a b].length : Nat) : Int) (Int.ofNat 1)) = some (LR a b) := by
        rw [show isub .i64 (([LR a b].length : Nat) : Int) (Int.ofNat 1) = ((0 : Nat) : Int) from by show isub .i64 1 1 = 0; rw [isub64 (by decide) (by decide)]; rfl]; exact iget_t rfl
      refine pur_code code14_ok ?_
      conv => whnf
      repeat' (first
        | (refine vb_t rfl ?_; conv => whnf)
        | (refine vb_f rfl ?_; conv => whnf)
        | (refine vb_t (by assumption) ?_; conv => whnf)
        | (refine vb_f (by assumption) ?_; conv => whnf)
        | (refine vpur_i hs ?_; conv => whnf)
        | (refine vo_i g0 ?_; conv => whnf)
        | (refine vo_i g1 ?_; conv => whnf)
        | fail)
      exact ⟨rfl, rfl⟩
    · have g0 : iget [LR a b, LR c d] (Int.ofNat 0) = some (LR a b) := iget_t (n := 0) rfl
      have g1 : iget [LR a b, LR c d] (isub .i64 (([LR a b, LR c d].length : Nat) : Int) (Int.ofNat 1)) = some (LR c d) := by
        rw [show isub .i64 (([LR a b, LR c d].length : Nat) : Int) (Int.ofNat 1) = ((1 : Nat) : Int) from by show isub .i64 2 1 = 1; rw [isub64 (by decide) (by decide)]; rfl]; exact iget_t rfl
      refine pur_code code14_ok ?_
      conv => whnf
      repeat' (first
        | (refine vb_t rfl ?_; conv => whnf)
        | (refine vb_f rfl ?_; conv => whnf)
        | (refine vb_t (by assumption) ?_; conv => whnf)
        | (refine vb_f (by assumption) ?_; conv => whnf)
        | (refine vpur_i hs ?_; conv => whnf)
        | (refine vo_i g0 ?_; conv => whnf)
        | (refine vo_i g1 ?_; conv => whnf)
        | fail)
      exact ⟨rfl, rfl⟩
    · simp only [List.length_cons] at h2; omega
  · have hnil := someS_nil (rdS l 1) 2 [] at_ (by rw [hR]; exact he)
    rw [hR] at hnil
    obtain ⟨L, nx, e⟩ := R
    simp only at he hnil
    subst hnil
    have z2 : (!ieq e (Int.ofNat 0)) = true := by rw [show ieq e (Int.ofNat 0) = false from by rw [ieq_f]; exact he]; rfl
    refine pur_code code14_ok ?_
    conv => whnf
    repeat' (first
      | (refine vb_t rfl ?_; conv => whnf)
      | (refine vb_f rfl ?_; conv => whnf)
      | (refine vb_t (by assumption) ?_; conv => whnf)
      | (refine vb_f (by assumption) ?_; conv => whnf)
      | (refine vpur_i hs ?_; conv => whnf)
      | fail)
    exact ⟨rfl, rfl⟩
def triA (x : Int × Int × Int) : AV := .tup [I x.1, I x.2.1, I x.2.2]
def alWs : List (List UInt8) := [[97, 117, 116, 111], [110, 111, 114, 109, 97, 108], [115, 116, 97, 114, 116], [101, 110, 100], [99, 101, 110, 116, 101, 114], [115, 116, 114, 101, 116, 99, 104], [115, 112, 97, 99, 101, 45, 98, 101, 116, 119, 101, 101, 110], [115, 112, 97, 99, 101, 45, 97, 114, 111, 117, 110, 100], [115, 112, 97, 99, 101, 45, 101, 118, 101, 110, 108, 121]]
def featAl : List (List UInt8) := [[98, 97, 115, 101, 108, 105, 110, 101], [102, 105, 114, 115, 116], [108, 97, 115, 116], [115, 97, 102, 101], [117, 110, 115, 97, 102, 101], [108, 101, 102, 116], [114, 105, 103, 104, 116], [102, 108, 101, 120, 45, 115, 116, 97, 114, 116], [102, 108, 101, 120, 45, 101, 110, 100], [115, 101, 108, 102, 45, 115, 116, 97, 114, 116], [115, 101, 108, 102, 45, 101, 110, 100], [108, 101, 103, 97, 99, 121], [105, 110, 104, 101, 114, 105, 116], [105, 110, 105, 116, 105, 97, 108], [117, 110, 115, 101, 116], [114, 101, 118, 101, 114, 116]]
def alS (t : Tok) (at_ set : Int) : Int × Int × Int :=
  if 0 ≤ kwS t alWs ∧ alGood (kwS t alWs + 1) set = true then (kwS t alWs + 1, iadd .i64 at_ 1, 0)
  else if 0 ≤ kwS t featAl then (0, at_, 51) else (0, at_, 50)
theorem kwS_ge (t : Tok) (ws : List (List UInt8)) : kwS t ws = -1 ∨ 0 ≤ kwS t ws ∧ kwS t ws < ws.length := by
  unfold kwS
  split
  · rcases kwFrom_ge t.text ws 0 with h | h
    · exact .inl h
    · exact .inr ⟨by omega, by omega⟩
  · exact .inl rfl
theorem kwFrom_at (s : List UInt8) : ∀ (ws : List (List UInt8)) (i j : Nat), kwFrom s ws i = ((i + j : Nat) : Int) → ∃ w, ws[j]? = some w ∧ lower s = lower w
  | [], i, j, h => by unfold kwFrom at h; omega
  | w :: l, i, j, h => by
    rw [kwFrom] at h
    split at h
    · rename_i hm
      have : j = 0 := by omega
      subst this
      exact ⟨w, rfl, hm⟩
    · cases j with
      | zero =>
        have := kwFrom_ge s l (i + 1)
        omega
      | succ j =>
        obtain ⟨w', h1, h2⟩ := kwFrom_at s l (i + 1) j (by rw [h]; congr 1; omega)
        exact ⟨w', by simpa using h1, h2⟩
theorem al_get : ∀ j : Nat, j < 9 → alWs[j]? = some (alText ((j : Int) + 1)) := by decide
theorem al_low : ∀ j : Nat, j < 9 → lower (alText ((j : Int) + 1)) = alText ((j : Int) + 1) ∧ (alText ((j : Int) + 1)).length ≤ 20 := by decide
theorem al_hit {s : List UInt8} {j : Nat} (hj : j < 9) (h : lower s = alText ((j : Int) + 1)) : kwFrom s alWs 0 = (j : Int) := by
  have hc : ∀ (ws : List (List UInt8)) (i : Nat), kwFrom s ws i = kwFrom (alText ((j : Int) + 1)) ws i := by
    intro ws
    induction ws with
    | nil => intro i; rfl
    | cons w l ih => intro i; rw [kwFrom, kwFrom, ih, h, (al_low j hj).1]
  rw [hc]
  have : ∀ j : Nat, j < 9 → kwFrom (alText ((j : Int) + 1)) alWs 0 = (j : Int) := by decide
  exact this j hj
theorem alS_none {t : Tok} {at_ set : Int} (h : ¬ (0 ≤ kwS t alWs ∧ alGood (kwS t alWs + 1) set = true)) : alS t at_ set = if 0 ≤ kwS t featAl then (0, at_, 51) else (0, at_, 50) := by unfold alS; rw [if_neg h]
theorem kw_one (t : Tok) (w : List UInt8) : kwS t [w] = if t.kind = 1 ∧ lower t.text = lower w then 0 else -1 := by
  unfold kwS
  by_cases h1 : t.kind = 1
  · rw [if_pos h1, kwFrom]
    by_cases h2 : lower t.text = lower w
    · rw [if_pos h2, if_pos ⟨h1, h2⟩]; rfl
    · rw [if_neg h2, if_neg (fun h => h2 h.2)]; rfl
  · rw [if_neg h1, if_neg (fun h => h1 h.1)]
theorem align_ok (l : List Tok) (v : DV) (hv : toksA l v) (hl : ∀ t ∈ l, tokOk t) (at_ set : Int) : Pur F0 16 [.d v, I at_, I set] [] .no (.ret (triA (alS (wordS l at_) at_ set))) .no := by
  have hkw := fun w (hw : w.length ≤ 1000) => keyword_ok l v hv hl at_ [w] (fun x hx => by rw [List.mem_singleton.1 hx]; exact hw) (by simp)
  have h2 := keyword_ok l v hv hl at_ featAl (by decide) (by decide)
  generalize wordS l at_ = t at *
  have hg2 := kwS_ge t featAl
  unfold kwA at h2
  obtain ⟨V, hV⟩ : ∃ V, triA (alS t at_ set) = V := ⟨_, rfl⟩
  rw [hV]
  refine pur_code code16_ok ?_
  conv => whnf
  refine vloop_by (σ := { j : Nat // j ≤ 9 ∧ ∀ i : Nat, i < j → ¬ (t.kind = 1 ∧ lower t.text = alText ((i : Int) + 1) ∧ alGood ((i : Int) + 1) set = true) }) (fun j => [(0, .d v), (1, I at_), (2, I set), (6, I (Int.ofNat 0)), (7, I (Int.ofNat 0)), (8, I (Int.ofNat 0)), (9, I ((j.1 + 1 : Nat) : Int))])
    (fun _ => []) (fun j => 9 - j.1) ?_ ⟨0, by decide, fun i h => by omega⟩
  rintro ⟨j, hj, hno⟩
  conv => whnf
  by_cases hlt : j < 9
  · have q1 : ile ((j + 1 : Nat) : Int) (Int.ofNat 9) = true := by rw [ile_t, ofn]; omega
    have ej : ((j + 1 : Nat) : Int) = (j : Int) + 1 := by omega
    obtain ⟨lw, ll⟩ := al_low j hlt
    have ht := alText_ok ((j + 1 : Nat) : Int)
    rw [ej] at ht q1
    have hk := hkw (alText ((j : Int) + 1)) (by omega)
    unfold kwA at hk
    rw [kw_one, lw] at hk
    have hgo := alGood_ok ((j : Int) + 1) set
    by_cases hm : t.kind = 1 ∧ lower t.text = alText ((j : Int) + 1)
    · rw [if_pos hm, if_neg (by decide)] at hk
      have z1 : ieq (0 : Int) (Int.ofNat 0) = true := by rw [ieq_t]; rfl
      by_cases ha : alGood ((j : Int) + 1) set = true
      · have hkS : kwS t alWs = (j : Int) := by unfold kwS; rw [if_pos hm.1]; exact al_hit hlt hm.2
        have hA : alS t at_ set = ((j : Int) + 1, iadd .i64 at_ 1, 0) := by unfold alS; rw [hkS, if_pos ⟨by omega, ha⟩]
        rw [hA] at hV
        subst hV
        rw [ha] at hgo
        repeat' (first
          | (refine vb_t rfl ?_; conv => whnf)
          | (refine vb_f rfl ?_; conv => whnf)
          | (refine vb_t (by assumption) ?_; conv => whnf)
          | (refine vb_f (by assumption) ?_; conv => whnf)
          | (refine vpur_i ht ?_; conv => whnf)
          | (refine vpur_i hk ?_; conv => whnf)
          | (refine vpur_i hgo ?_; conv => whnf)
          | fail)
        exact ⟨rfl, rfl⟩
      · rw [Bool.not_eq_true] at ha
        rw [ha] at hgo
        repeat' (first
          | (refine vb_t rfl ?_; conv => whnf)
          | (refine vb_f rfl ?_; conv => whnf)
          | (refine vb_t (by assumption) ?_; conv => whnf)
          | (refine vb_f (by assumption) ?_; conv => whnf)
          | (refine vpur_i ht ?_; conv => whnf)
          | (refine vpur_i hk ?_; conv => whnf)
          | (refine vpur_i hgo ?_; conv => whnf)
          | fail)
        exact ⟨⟨j + 1, by omega, fun i hi h => by
          by_cases e : i = j
          · subst e; rw [ha] at h; cases h.2.2
          · exact hno i (by omega) h⟩, by simp only; omega, cons_eq rfl (cons_eq rfl (cons_eq rfl (cons_eq rfl (cons_eq rfl (cons_eq rfl (cons_eq (slot_eq (I_eq (iadd_one (i := j + 1) (by omega)))) rfl)))))), rfl, rfl, rfl⟩
    · rw [if_neg hm, if_pos rfl] at hk
      have z1 : ieq (-1 : Int) (Int.ofNat 0) = false := by rw [ieq_f]; decide
      repeat' (first
        | (refine vb_t rfl ?_; conv => whnf)
        | (refine vb_f rfl ?_; conv => whnf)
        | (refine vb_t (by assumption) ?_; conv => whnf)
        | (refine vb_f (by assumption) ?_; conv => whnf)
        | (refine vpur_i ht ?_; conv => whnf)
        | (refine vpur_i hk ?_; conv => whnf)
        | (refine vpur_i hgo ?_; conv => whnf)
        | fail)
      exact ⟨⟨j + 1, by omega, fun i hi h => by
        by_cases e : i = j
        · subst e; exact hm ⟨h.1, h.2.1⟩
        · exact hno i (by omega) h⟩, by simp only; omega, cons_eq rfl (cons_eq rfl (cons_eq rfl (cons_eq rfl (cons_eq rfl (cons_eq rfl (cons_eq (slot_eq (I_eq (iadd_one (i := j + 1) (by omega)))) rfl)))))), rfl, rfl, rfl⟩
  · obtain rfl : j = 9 := by omega
    have q1 : ile ((9 + 1 : Nat) : Int) (Int.ofNat 9) = false := by rw [ile_f]; decide
    have hnone : ¬ (0 ≤ kwS t alWs ∧ alGood (kwS t alWs + 1) set = true) := fun ⟨h0, ha⟩ => by
      rcases kwS_ge t alWs with h | ⟨_, h9⟩
      · omega
      · have h9 : kwS t alWs < 9 := h9
        obtain ⟨i, hi⟩ : ∃ i : Nat, kwS t alWs = (i : Int) := ⟨(kwS t alWs).toNat, by omega⟩
        rw [hi] at ha h9
        have hk1 : t.kind = 1 := by
          refine Classical.byContradiction fun hk => ?_
          unfold kwS at hi; rw [if_neg hk] at hi; omega
        unfold kwS at hi
        rw [if_pos hk1] at hi
        obtain ⟨w, hw, hm⟩ := kwFrom_at t.text alWs 0 i (by rw [hi, Nat.zero_add])
        rw [al_get i (by omega)] at hw
        cases hw
        rw [(al_low i (by omega)).1] at hm
        exact hno i (by omega) ⟨hk1, hm, ha⟩
    rw [alS_none hnone] at hV
    generalize kwS t featAl = f at *
    by_cases hf : 0 ≤ f
    · have q2 : ile (Int.ofNat 0) f = true := by rw [ile_t]; exact hf
      rw [if_pos hf] at hV
      subst hV
      repeat' (first
        | (refine vb_t rfl ?_; conv => whnf)
        | (refine vb_f rfl ?_; conv => whnf)
        | (refine vb_t (by assumption) ?_; conv => whnf)
        | (refine vb_f (by assumption) ?_; conv => whnf)
        | (refine vpur_i h2 ?_; conv => whnf)
        | fail)
      exact ⟨rfl, rfl⟩
    · have q2 : ile (Int.ofNat 0) f = false := by rw [ile_f]; exact Int.not_le.1 hf
      rw [if_neg hf] at hV
      subst hV
      repeat' (first
        | (refine vb_t rfl ?_; conv => whnf)
        | (refine vb_f rfl ?_; conv => whnf)
        | (refine vb_t (by assumption) ?_; conv => whnf)
        | (refine vb_f (by assumption) ?_; conv => whnf)
        | (refine vpur_i h2 ?_; conv => whnf)
        | fail)
      exact ⟨rfl, rfl⟩
end Go.Proofs.YtapnjabhcdlhbaaGreatDoor.Ab
namespace Go.Proofs.YtapnjabhcdlhbaaGreatDoor.Ab
open Go
set_option linter.unusedSimpArgs false
set_option maxRecDepth 100000
set_option linter.unusedVariables false
set_option maxHeartbeats 4000000
theorem mgood_ok (k0 n0 k1 n1 k2 n2 k3 n3 : Int) : Pur F0 45 [.agg [I k0, I n0, I k1, I n1, I k2, I n2, I k3, I n3]] [] .no (.ret (B (goodL k0 n0 7 && goodL k1 n1 7 && goodL k2 n2 7 && goodL k3 n3 7))) .no := by
  refine pur_code code45_ok ?_
  conv => whnf
  obtain ⟨a0, a1, a2, a3, a4⟩ := lt4
  obtain ⟨b0, b1, b2, b3⟩ := in4
  repeat' (first
    | (refine vb_t rfl ?_; conv => whnf)
    | (refine vb_f rfl ?_; conv => whnf)
    | (refine vb_t (by assumption) ?_; conv => whnf)
    | (refine vb_f (by assumption) ?_; conv => whnf)
    | (simp only [ia0, ia1, ia2, ia3]; conv => whnf)
    | (refine vloop_once ?_; conv => whnf)
    | (refine vpur_i (good_ok _ _ _) ?_; conv => whnf)
    | (refine vb_i (fun h => ?_) (fun h => ?_) <;> conv => whnf)
    | fail)
  all_goals refine ⟨congrArg CR.ret (congrArg AV.d (congrArg DV.bool ?_)), by trivial⟩
  all_goals clear a0 a1 a2 a3 a4 b0 b1 b2 b3
  all_goals simp only [Bool.not_eq_true', Bool.not_eq_false', lit7] at *
  all_goals simp_all
end Go.Proofs.YtapnjabhcdlhbaaGreatDoor.Ab
namespace Go.Proofs.YtapnjabhcdlhbaaGreatDoor.Ab
open Go
set_option linter.unusedSimpArgs false
set_option maxRecDepth 100000
set_option linter.unusedVariables false
set_option maxHeartbeats 4000000
theorem rowStrs_map : ∀ l : List (List UInt8), rowStrs (l.map fun s => [DV.str s]) = some l
  | [] => rfl
  | s :: l => by simp only [List.map_cons, rowStrs, rowStr, rowStrs_map l]
theorem join_ok (l : List (List UInt8)) (sep : List UInt8) (h1 : l.length ≤ 140737488355328) (h2 : (Lib.join l sep).length ≤ 140737488355328) (h : Heap) : Pur F0 102 [.d (.sl 1 (l.map fun s => [DV.str s])), S sep] h .no (.ret (S (Lib.join l sep))) .no := by
  refine pur_known (g := kJoin) (by kernel_rfl) ?_
  have e : (decide (l.length ≤ 140737488355328) && decide ((Lib.join l sep).length ≤ 140737488355328)) = true := by simp [h1, h2]
  simp only [kJoin, rowStrs_map, e]
theorem keyText_le (k : Int) : (keyText k).length ≤ 11 := by unfold keyText; (repeat' split) <;> decide
theorem valText_len (k n : Int) : (valText k n).length ≤ 210 := by
  have h1 := numText_len n 64
  have h2 := numText_len n 1000
  have h3 := keyText_le k
  unfold valText
  (repeat' split) <;> (try rw [List.length_append]) <;> (try simp only [List.length_cons, List.length_nil]) <;> omega
theorem join1 (a : List UInt8) : Lib.join [a] [32] = a := Lib.join_one a [32]
theorem join2 (a b : List UInt8) : Lib.join [a, b] [32] = a ++ ([32] ++ b) := by simp [Lib.join_cons, Lib.joinTail]
theorem join3 (a b c : List UInt8) : Lib.join [a, b, c] [32] = a ++ ([32] ++ (b ++ ([32] ++ c))) := by simp [Lib.join_cons, Lib.joinTail]
theorem join4 (a b c d : List UInt8) : Lib.join [a, b, c, d] [32] = a ++ ([32] ++ (b ++ ([32] ++ (c ++ ([32] ++ d))))) := by simp [Lib.join_cons, Lib.joinTail]
theorem ltM : ilt (Int.ofNat 1) ((1 : Nat) : Int) = false ∧ ilt (Int.ofNat 2) ((2 : Nat) : Int) = false ∧ ilt (Int.ofNat 3) ((3 : Nat) : Int) = false ∧ ilt (Int.ofNat 0) ((4 : Nat) : Int) = true ∧ ilt (Int.ofNat 1) ((4 : Nat) : Int) = true ∧ ilt (Int.ofNat 2) ((4 : Nat) : Int) = true ∧ ilt (Int.ofNat 3) ((4 : Nat) : Int) = true ∧ ilt (Int.ofNat 4) ((4 : Nat) : Int) = false := by
  simp only [ilt_t, ilt_f]; decide
theorem texts1_ok (k0 n0 : Int) : Pur F0 107 [.d (.sl 2 [LR k0 n0])] [] .no (.ret (S (Lib.join [valText k0 n0] [32]))) .no := by
  have j := join_ok [valText k0 n0] [32] (by simp) (by rw [join1]; have := valText_len k0 n0; omega) []
  refine pur_code code107_ok ?_
  conv => whnf
  obtain ⟨c10, c11, c12, c13, c20, c21, c22, c23, c30, c31, c32, c33⟩ := ltN
  obtain ⟨d1, d2, d3, e0, e1, e2, e3, e4⟩ := ltM
  repeat' (first
    | (refine vb_t rfl ?_; conv => whnf)
    | (refine vb_f rfl ?_; conv => whnf)
    | (refine vb_t (by assumption) ?_; conv => whnf)
    | (refine vb_f (by assumption) ?_; conv => whnf)
    | (simp only [ia0, ia1, ia2, ia3]; conv => whnf)
    | (refine vloop_once ?_; conv => whnf)
    | (refine vo_i (iget_t rfl) ?_; conv => whnf)
    | (refine vpur_i (vtext_ok _ _) ?_; conv => whnf)
    | (refine vb_t (room_t (by simp)) ?_; conv => whnf)
    | (refine vb_t (by simp [ieq_t]) ?_; conv => whnf)
    | (refine vpur_i j ?_; conv => whnf)
    | fail)
  exact ⟨by trivial, by trivial⟩
theorem texts2_ok (k0 n0 k1 n1 : Int) : Pur F0 107 [.d (.sl 2 [LR k0 n0, LR k1 n1])] [] .no (.ret (S (Lib.join [valText k0 n0, valText k1 n1] [32]))) .no := by
  have j := join_ok [valText k0 n0, valText k1 n1] [32] (by simp) (by rw [join2]; have := valText_len k0 n0; have := valText_len k1 n1; simp; omega) []
  refine pur_code code107_ok ?_
  conv => whnf
  obtain ⟨c10, c11, c12, c13, c20, c21, c22, c23, c30, c31, c32, c33⟩ := ltN
  obtain ⟨d1, d2, d3, e0, e1, e2, e3, e4⟩ := ltM
  repeat' (first
    | (refine vb_t rfl ?_; conv => whnf)
    | (refine vb_f rfl ?_; conv => whnf)
    | (refine vb_t (by assumption) ?_; conv => whnf)
    | (refine vb_f (by assumption) ?_; conv => whnf)
    | (simp only [ia0, ia1, ia2, ia3]; conv => whnf)
    | (refine vloop_once ?_; conv => whnf)
    | (refine vo_i (iget_t rfl) ?_; conv => whnf)
    | (refine vpur_i (vtext_ok _ _) ?_; conv => whnf)
    | (refine vb_t (room_t (by simp)) ?_; conv => whnf)
    | (refine vb_t (by simp [ieq_t]) ?_; conv => whnf)
    | (refine vpur_i j ?_; conv => whnf)
    | fail)
  exact ⟨by trivial, by trivial⟩
theorem texts3_ok (k0 n0 k1 n1 k2 n2 : Int) : Pur F0 107 [.d (.sl 2 [LR k0 n0, LR k1 n1, LR k2 n2])] [] .no (.ret (S (Lib.join [valText k0 n0, valText k1 n1, valText k2 n2] [32]))) .no := by
  have j := join_ok [valText k0 n0, valText k1 n1, valText k2 n2] [32] (by simp) (by rw [join3]; have := valText_len k0 n0; have := valText_len k1 n1; have := valText_len k2 n2; simp; omega) []
  refine pur_code code107_ok ?_
  conv => whnf
  obtain ⟨c10, c11, c12, c13, c20, c21, c22, c23, c30, c31, c32, c33⟩ := ltN
  obtain ⟨d1, d2, d3, e0, e1, e2, e3, e4⟩ := ltM
  repeat' (first
    | (refine vb_t rfl ?_; conv => whnf)
    | (refine vb_f rfl ?_; conv => whnf)
    | (refine vb_t (by assumption) ?_; conv => whnf)
    | (refine vb_f (by assumption) ?_; conv => whnf)
    | (simp only [ia0, ia1, ia2, ia3]; conv => whnf)
    | (refine vloop_once ?_; conv => whnf)
    | (refine vo_i (iget_t rfl) ?_; conv => whnf)
    | (refine vpur_i (vtext_ok _ _) ?_; conv => whnf)
    | (refine vb_t (room_t (by simp)) ?_; conv => whnf)
    | (refine vb_t (by simp [ieq_t]) ?_; conv => whnf)
    | (refine vpur_i j ?_; conv => whnf)
    | fail)
  exact ⟨by trivial, by trivial⟩
theorem texts4_ok (k0 n0 k1 n1 k2 n2 k3 n3 : Int) : Pur F0 107 [.d (.sl 2 [LR k0 n0, LR k1 n1, LR k2 n2, LR k3 n3])] [] .no (.ret (S (Lib.join [valText k0 n0, valText k1 n1, valText k2 n2, valText k3 n3] [32]))) .no := by
  have j := join_ok [valText k0 n0, valText k1 n1, valText k2 n2, valText k3 n3] [32] (by simp) (by rw [join4]; have := valText_len k0 n0; have := valText_len k1 n1; have := valText_len k2 n2; have := valText_len k3 n3; simp; omega) []
  refine pur_code code107_ok ?_
  conv => whnf
  obtain ⟨c10, c11, c12, c13, c20, c21, c22, c23, c30, c31, c32, c33⟩ := ltN
  obtain ⟨d1, d2, d3, e0, e1, e2, e3, e4⟩ := ltM
  repeat' (first
    | (refine vb_t rfl ?_; conv => whnf)
    | (refine vb_f rfl ?_; conv => whnf)
    | (refine vb_t (by assumption) ?_; conv => whnf)
    | (refine vb_f (by assumption) ?_; conv => whnf)
    | (simp only [ia0, ia1, ia2, ia3]; conv => whnf)
    | (refine vloop_once ?_; conv => whnf)
    | (refine vo_i (iget_t rfl) ?_; conv => whnf)
    | (refine vpur_i (vtext_ok _ _) ?_; conv => whnf)
    | (refine vb_t (room_t (by simp)) ?_; conv => whnf)
    | (refine vb_t (by simp [ieq_t]) ?_; conv => whnf)
    | (refine vpur_i j ?_; conv => whnf)
    | fail)
  exact ⟨by trivial, by trivial⟩
/-- Gaps' text. -/
def gapText (k0 n0 k1 n1 : Int) : List UInt8 := if goodL k0 n0 1 = true ∧ goodL k1 n1 1 = true then (if k0 = k1 ∧ n0 = n1 then valText k0 n0 else valText k0 n0 ++ ([32] ++ valText k1 n1)) else []
theorem gap1_ok (k n : Int) : Pur F0 108 [.agg [I k, I n]] [] .no (.ret (B (goodL k n 1))) .no := by
  refine pur_code code108_ok ?_
  conv => whnf
  repeat' (first
    | (refine vb_t rfl ?_; conv => whnf)
    | (refine vb_f rfl ?_; conv => whnf)
    | (refine vb_t (by assumption) ?_; conv => whnf)
    | (refine vb_f (by assumption) ?_; conv => whnf)
    | (refine vpur_i (good_ok _ _ _) ?_; conv => whnf)
    | fail)
  exact ⟨by trivial, by trivial⟩
theorem gapText_ok (k0 n0 k1 n1 : Int) : Pur F0 49 [.agg [I k0, I n0], .agg [I k1, I n1]] [] .no (.ret (S (gapText k0 n0 k1 n1))) .no := by
  refine pur_code code49_ok ?_
  conv => whnf
  repeat' (first
    | (refine vb_t rfl ?_; conv => whnf)
    | (refine vb_f rfl ?_; conv => whnf)
    | (refine vb_t (by assumption) ?_; conv => whnf)
    | (refine vb_f (by assumption) ?_; conv => whnf)
    | (refine vpur_i (gap1_ok _ _) ?_; conv => whnf)
    | (refine vpur_i (vtext_ok _ _) ?_; conv => whnf)
    | (refine vpur_i (texts2_ok _ _ _ _) ?_; conv => whnf)
    | (refine vb_i (fun h => ?_) (fun h => ?_) <;> conv => whnf)
    | fail)
  all_goals refine ⟨congrArg CR.ret (S_eq ?_), by trivial⟩
  all_goals unfold gapText
  · simp_all
  · simp_all
  · simp_all [ieq_d]
  · rw [if_pos (by simp_all), if_neg (by simp_all [ieq_d]), join2]
/-- How many margins are told. -/
def prEq (k0 n0 k1 n1 : Int) : Bool := decide (k0 = k1 ∧ n0 = n1)
def mText (k0 n0 k1 n1 k2 n2 k3 n3 : Int) : List UInt8 :=
  if (goodL k0 n0 7 && goodL k1 n1 7 && goodL k2 n2 7 && goodL k3 n3 7) = true then
    (if (prEq k0 n0 k1 n1 && prEq k0 n0 k2 n2 && prEq k0 n0 k3 n3) = true then valText k0 n0
     else if (prEq k0 n0 k2 n2 && prEq k1 n1 k3 n3) = true then Lib.join [valText k0 n0, valText k1 n1] [32]
     else if prEq k1 n1 k3 n3 = true then Lib.join [valText k0 n0, valText k1 n1, valText k2 n2] [32]
     else Lib.join [valText k0 n0, valText k1 n1, valText k2 n2, valText k3 n3] [32]) else []
theorem ieq_self (a : Int) : ieq a a = true := by rw [ieq_t]
theorem prEq_d (a b c d : Int) : prEq a b c d = (ieq a c && ieq b d) := by simp [prEq, ieq_d]
theorem mText_ok (k0 n0 k1 n1 k2 n2 k3 n3 : Int) : Pur F0 47 [.agg [I k0, I n0, I k1, I n1, I k2, I n2, I k3, I n3]] [] .no (.ret (S (mText k0 n0 k1 n1 k2 n2 k3 n3))) .no := by
  refine pur_code code47_ok ?_
  conv => whnf
  obtain ⟨a0, a1, a2, a3, a4⟩ := lt4
  repeat' (first
    | (refine vb_t rfl ?_; conv => whnf)
    | (refine vb_f rfl ?_; conv => whnf)
    | (refine vb_t (by assumption) ?_; conv => whnf)
    | (refine vb_f (by assumption) ?_; conv => whnf)
    | (simp only [ia0, ia1, ia2, ia3]; conv => whnf)
    | (refine vloop_once ?_; conv => whnf)
    | (refine vpur_i (mgood_ok _ _ _ _ _ _ _ _) ?_; conv => whnf)
    | (refine vo_i (icut_e (i := 0) (j := 1) rfl rfl (by simp) (by simp)) ?_; conv => whnf)
    | (refine vpur_i (four1_ok _ _) ?_; conv => whnf)
    | (refine vpur_i (four2_ok _ _ _ _) ?_; conv => whnf)
    | (refine vpur_i (four3_ok _ _ _ _ _ _) ?_; conv => whnf)
    | (refine vo_i (icut_e (i := 0) (j := 2) rfl rfl (by simp) (by simp)) ?_; conv => whnf)
    | (refine vo_i (icut_e (i := 0) (j := 3) rfl rfl (by simp) (by simp)) ?_; conv => whnf)
    | (refine vo_i (icut_e (i := 0) (j := 4) rfl rfl (by simp) (by simp)) ?_; conv => whnf)
    | (refine vpur_i (texts1_ok _ _) ?_; conv => whnf)
    | (refine vpur_i (texts2_ok _ _ _ _) ?_; conv => whnf)
    | (refine vpur_i (texts3_ok _ _ _ _ _ _) ?_; conv => whnf)
    | (refine vpur_i (texts4_ok _ _ _ _ _ _ _ _) ?_; conv => whnf)
    | (refine vb_i (fun h => ?_) (fun h => ?_) <;> conv => whnf)
    | fail)
  all_goals clear a0 a1 a2 a3 a4
  all_goals refine ⟨congrArg CR.ret (S_eq ?_), by trivial⟩
  all_goals unfold mText
  all_goals generalize (goodL k0 n0 7 && goodL k1 n1 7 && goodL k2 n2 7 && goodL k3 n3 7) = g at *
  all_goals simp only [ieq_self, Bool.true_and, Bool.not_eq_true', Bool.not_eq_false', prEq_d, join1, Bool.and_assoc] at *
  all_goals simp only [*]
  all_goals first | rfl | (simp_all; done)
end Go.Proofs.YtapnjabhcdlhbaaGreatDoor.Ab
namespace Go.Proofs.YtapnjabhcdlhbaaGreatDoor.Ab
open Go
set_option linter.unusedSimpArgs false
set_option maxRecDepth 100000
set_option linter.unusedVariables false
set_option maxHeartbeats 4000000
theorem lives09_ok : Pur F0 11 [] [] .no (.ret (B true)) .no := pur_closed (n := 100) (by kernel_rfl)
end Go.Proofs.YtapnjabhcdlhbaaGreatDoor.Ab
namespace Go.Proofs.YtapnjabhcdlhbaaGreatDoor.Ab
open Go
set_option linter.unusedSimpArgs false
set_option maxRecDepth 100000
set_option linter.unusedVariables false
set_option maxHeartbeats 4000000
/-- A box; a line of boxes as it lies; content as it lies. -/
abbrev Bx := Int × Int
def bxRow (b : Bx) : List DV := [.int .i64 b.1, .int .i64 b.2]
def isLine (d : DV) (l : List Bx) : Prop := ((d = .nilsl ∧ l = []) ∨ d = .sl 2 (l.map bxRow)) ∧ l.length ≤ 9223372036854775807
abbrev Ln := DV × List Bx
def lnRow (x : Ln) : List DV := [x.1]
def linesA (w : List Ln) (v : DV) : Prop := (∀ x ∈ w, isLine x.1 x.2) ∧ w.length ≤ 9223372036854775807 ∧ (v = .nilsl ∧ w = [] ∨ v = .sl 1 (w.map lnRow))
def sideOk (n : Int) : Bool := decide (0 ≤ n) && decide (n ≤ 68719476736)
def boxesOk : List Bx → Bool
  | [] => true
  | b :: l => sideOk b.1 && sideOk b.2 && boxesOk l
/-- May it be, with so many boxes ahead of it? -/
def goodFrom (n : Nat) : List Ln → Bool
  | [] => true
  | x :: r => !x.2.isEmpty && decide (n + x.2.length ≤ 256) && boxesOk x.2 && goodFrom (n + x.2.length) r
theorem ret_B {a b : Bool} (h : a = b) : (CR.ret (B a)) = CR.ret (B b) := by rw [h]
theorem drop_get {α : Type} {l : List α} {i : Nat} {x : α} (h : l[i]? = some x) : l.drop i = x :: l.drop (i + 1) := by
  obtain ⟨h1, h2⟩ := List.getElem?_eq_some_iff.1 h
  rw [List.drop_eq_getElem_cons h1, h2]
theorem side_ok (n : Int) : Pur F0 99 [I n] [] .no (.ret (B (sideOk n))) .no := by
  refine pur_code code99_ok ?_
  conv => whnf
  repeat' (first
    | (refine vb_t rfl ?_; conv => whnf)
    | (refine vb_f rfl ?_; conv => whnf)
    | (refine vb_t (by assumption) ?_; conv => whnf)
    | (refine vb_f (by assumption) ?_; conv => whnf)
    | (refine vpur_i (fixedIs_ok _) ?_; conv => whnf)
    | (refine vb_i (fun h => ?_) (fun h => ?_) <;> conv => whnf)
    | fail)
  all_goals refine ⟨ret_B ?_, by trivial⟩
  · rw [ile_t] at h
    have h0 : (0 : Int) ≤ n := h
    have h1 : (-68719476736 : Int) ≤ n := by omega
    simp only [sideOk, isPx, decide_eq_true h0, decide_eq_true h1, Bool.true_and]
  · rw [ile_f] at h
    have h0 : ¬ (0 : Int) ≤ n := Int.not_le.2 h
    simp only [sideOk, decide_eq_false h0, Bool.false_and]
theorem lt00 : ilt 0 0 = false := by rw [ilt_f]; decide
theorem eq00 : ieq (Int.ofNat 0) (Int.ofNat 0) = true := by rw [ieq_t]
theorem wgood_ok (w : List Ln) (v : DV) (h : linesA w v) : Pur F0 39 [.d v] [] .no (.ret (B (goodFrom 0 w))) .no := by
  have q0 := lt00
  obtain ⟨hl, hlen, ⟨rfl, rfl⟩ | rfl⟩ := h
  · refine pur_code code39_ok ?_
    conv => whnf
    repeat' (first
      | (refine vb_t rfl ?_; conv => whnf)
      | (refine vb_f rfl ?_; conv => whnf)
      | (refine vb_t (by assumption) ?_; conv => whnf)
      | (refine vb_f (by assumption) ?_; conv => whnf)
      | (refine vloop_once ?_; conv => whnf)
      | fail)
    exact ⟨by trivial, by trivial⟩
  · refine pur_code code39_ok ?_
    conv => whnf
    refine vloop_eq2 (fr' := [(2, B false), (3, I (256 - ((0 : Nat) : Int))), (4, .fn .pure 99 [] []), (9, .d (.sl 1 (w.map lnRow))), (10, I (w.map lnRow).length), (11, I ((0 : Nat) : Int))]) rfl rfl ?_
    refine vloop_by (σ := { p : Nat × Nat // p.1 ≤ w.length ∧ p.2 ≤ 256 ∧ goodFrom p.2 (w.drop p.1) = goodFrom 0 w }) (fun p => [(2, B false), (3, I (256 - (p.1.2 : Int))), (4, .fn .pure 99 [] []), (9, .d (.sl 1 (w.map lnRow))), (10, I (w.map lnRow).length), (11, I (p.1.1 : Int))]) (fun _ => []) (fun p => w.length - p.1.1) ?_ ⟨(0, 0), by simp, by simp, rfl⟩
    rintro ⟨⟨i, n⟩, hi, hn, hg⟩
    conv => whnf
    simp only at hi hn hg
    refine vb_i (fun h => ?_) (fun h => ?_) <;> conv => whnf
    · have hlt : i < w.length := by (first | omega | (simp only [ilt_t, ilt_f, ile_t, ile_f, ieq_t, ieq_f, ofn, List.length_map, Bool.not_eq_true', Bool.not_eq_false'] at *; omega))
      obtain ⟨⟨d, l⟩, hx⟩ : ∃ x, w[i]? = some x := ⟨w[i], List.getElem?_eq_getElem hlt⟩
      have hr : iget (w.map lnRow) (i : Int) = some (lnRow (d, l)) := iget_t (by rw [List.getElem?_map, hx]; rfl)
      rw [drop_get hx] at hg
      have hll := hl (d, l) (List.mem_of_getElem? hx)
      obtain ⟨⟨e1, e2⟩ | e1, hll⟩ := hll
      · obtain rfl : d = .nilsl := e1
        obtain rfl : l = [] := e2
        have hF : goodFrom 0 w = false := by rw [← hg]; rfl
        have q1 : ieq 0 (Int.ofNat 0) = true := eq00
        repeat' (first
          | (refine vb_t rfl ?_; conv => whnf)
          | (refine vb_f rfl ?_; conv => whnf)
          | (refine vb_t (by assumption) ?_; conv => whnf)
          | (refine vb_f (by assumption) ?_; conv => whnf)
          | (refine vo_i hr ?_; conv => whnf)
          | fail)
        exact ⟨ret_B hF.symm, by trivial⟩
      · obtain rfl : d = .sl 2 (l.map bxRow) := e1
        have hll : l.length ≤ 9223372036854775807 := hll
        by_cases hz : l.length = 0
        · have hF : goodFrom 0 w = false := by rw [← hg]; have := List.length_eq_zero_iff.1 hz; subst this; rfl
          have q1 : ieq ((l.map bxRow).length : Int) (Int.ofNat 0) = true := by rw [ieq_t, List.length_map, hz]; rfl
          repeat' (first
            | (refine vb_t rfl ?_; conv => whnf)
            | (refine vb_f rfl ?_; conv => whnf)
            | (refine vb_t (by assumption) ?_; conv => whnf)
            | (refine vb_f (by assumption) ?_; conv => whnf)
            | (refine vo_i hr ?_; conv => whnf)
            | fail)
          exact ⟨ret_B hF.symm, by trivial⟩
        · have q1 : ieq ((l.map bxRow).length : Int) (Int.ofNat 0) = false := by rw [ieq_f, List.length_map, ofn]; omega
          by_cases hm : 256 < n + l.length
          · have hF : goodFrom 0 w = false := by rw [← hg]; simp only [goodFrom, decide_eq_false (Nat.not_le.2 hm), Bool.and_false, Bool.false_and]
            have q2 : ilt (256 - (n : Int)) ((l.map bxRow).length : Int) = true := by rw [ilt_t, List.length_map]; omega
            repeat' (first
              | (refine vb_t rfl ?_; conv => whnf)
              | (refine vb_f rfl ?_; conv => whnf)
              | (refine vb_t (by assumption) ?_; conv => whnf)
              | (refine vb_f (by assumption) ?_; conv => whnf)
              | (refine vo_i hr ?_; conv => whnf)
              | fail)
            exact ⟨ret_B hF.symm, by trivial⟩
          · have q2 : ilt (256 - (n : Int)) ((l.map bxRow).length : Int) = false := by rw [ilt_f, List.length_map]; omega
            have hg2 : goodFrom 0 w = (boxesOk l && goodFrom (n + l.length) (w.drop (i + 1))) := by
              rw [← hg]
              have h1 : l.isEmpty = false := by cases l with | nil => simp at hz | cons => rfl
              simp only [goodFrom, h1, decide_eq_true (Nat.not_lt.1 hm), Bool.not_false, Bool.true_and]
            repeat' (first
              | (refine vb_t rfl ?_; conv => whnf)
              | (refine vb_f rfl ?_; conv => whnf)
              | (refine vb_t (by assumption) ?_; conv => whnf)
              | (refine vb_f (by assumption) ?_; conv => whnf)
              | (refine vo_i hr ?_; conv => whnf)
              | fail)
            refine vloop_by (σ := { k : Nat // k ≤ l.length ∧ boxesOk (l.drop k) = boxesOk l }) (fun k => [(2, B false), (3, I (isub .i64 (256 - (n : Int)) ((l.map bxRow).length : Int))), (4, .fn .pure 99 [] []), (9, .d (.sl 1 (w.map lnRow))), (10, I (w.map lnRow).length), (11, I (i : Int)), (28, .d (.sl 2 (l.map bxRow))), (29, I (l.map bxRow).length), (30, I (k.1 : Int))]) (fun _ => []) (fun k => l.length - k.1) ?_ ⟨0, Nat.zero_le _, rfl⟩
            rintro ⟨k, hk, hb⟩
            conv => whnf
            refine vb_i (fun h' => ?_) (fun h' => ?_) <;> conv => whnf
            · have hlk : k < l.length := by (first | omega | (simp only [ilt_t, ilt_f, ile_t, ile_f, ieq_t, ieq_f, ofn, List.length_map, Bool.not_eq_true', Bool.not_eq_false'] at *; omega))
              obtain ⟨⟨x, y⟩, hxy⟩ : ∃ b, l[k]? = some b := ⟨l[k], List.getElem?_eq_getElem hlk⟩
              have hr2 : iget (l.map bxRow) (k : Int) = some (bxRow (x, y)) := iget_t (by rw [List.getElem?_map, hxy]; rfl)
              rw [drop_get hxy] at hb
              repeat' (first
                | (refine vb_t rfl ?_; conv => whnf)
                | (refine vb_f rfl ?_; conv => whnf)
                | (refine vb_t (by assumption) ?_; conv => whnf)
                | (refine vb_f (by assumption) ?_; conv => whnf)
                | (refine vo_i hr2 ?_; conv => whnf)
                | (refine vpur_i (side_ok x) ?_; conv => whnf)
                | fail)
              refine vb_i (fun h2 => ?_) (fun h2 => ?_) <;> conv => whnf
              · have h3 : sideOk x = false := by simpa using h2
                repeat' (first
                  | (refine vb_t rfl ?_; conv => whnf)
                  | (refine vb_f rfl ?_; conv => whnf)
                  | (refine vb_t (by assumption) ?_; conv => whnf)
                  | (refine vb_f (by assumption) ?_; conv => whnf)
                  | fail)
                refine ⟨ret_B ?_, by trivial⟩
                rw [hg2, ← hb]; simp only [boxesOk, h3, Bool.false_and]
              · have h3 : sideOk x = true := by simpa using h2
                repeat' (first
                  | (refine vb_t rfl ?_; conv => whnf)
                  | (refine vb_f rfl ?_; conv => whnf)
                  | (refine vb_t (by assumption) ?_; conv => whnf)
                  | (refine vb_f (by assumption) ?_; conv => whnf)
                  | (refine vpur_i (side_ok y) ?_; conv => whnf)
                  | fail)
                refine vb_i (fun h4 => ?_) (fun h4 => ?_) <;> conv => whnf
                · have h5 : sideOk y = false := by simpa using h4
                  repeat' (first
                    | (refine vb_t rfl ?_; conv => whnf)
                    | (refine vb_f rfl ?_; conv => whnf)
                    | (refine vb_t (by assumption) ?_; conv => whnf)
                    | (refine vb_f (by assumption) ?_; conv => whnf)
                    | fail)
                  refine ⟨ret_B ?_, by trivial⟩
                  rw [hg2, ← hb]; simp only [boxesOk, h3, h5, Bool.and_false, Bool.false_and]
                · have h5 : sideOk y = true := by simpa using h4
                  repeat' (first
                    | (refine vb_t rfl ?_; conv => whnf)
                    | (refine vb_f rfl ?_; conv => whnf)
                    | (refine vb_t (by assumption) ?_; conv => whnf)
                    | (refine vb_f (by assumption) ?_; conv => whnf)
                    | fail)
                  refine ⟨⟨k + 1, hlk, ?_⟩, by simp only; omega, cons_eq rfl (cons_eq rfl (cons_eq rfl (cons_eq rfl (cons_eq rfl (cons_eq rfl (cons_eq rfl (cons_eq rfl (cons_eq (slot_eq (I_eq (iadd_one (i := k) (by omega)))) rfl)))))))), rfl, rfl, rfl⟩
                  rw [← hb]; simp only [boxesOk, h3, h5, Bool.true_and]
            · have hk2 : k = l.length := by (first | omega | (simp only [ilt_t, ilt_f, ile_t, ile_f, ieq_t, ieq_f, ofn, List.length_map, Bool.not_eq_true', Bool.not_eq_false'] at *; omega))
              have hbt : boxesOk l = true := by rw [← hb, hk2, List.drop_length]; rfl
              have e3 : isub .i64 (256 - (n : Int)) ((l.map bxRow).length : Int) = 256 - ((n + l.length : Nat) : Int) := by rw [List.length_map, isub64 (by omega) (by omega)]; omega
              repeat' (first
                | (refine vb_t rfl ?_; conv => whnf)
                | (refine vb_f rfl ?_; conv => whnf)
                | (refine vb_t (by assumption) ?_; conv => whnf)
                | (refine vb_f (by assumption) ?_; conv => whnf)
                | fail)
              refine ⟨⟨(i + 1, n + l.length), hlt, by show n + l.length ≤ 256; omega, ?_⟩, by simp only; omega, cons_eq rfl (cons_eq (slot_eq (I_eq ?_)) (cons_eq rfl (cons_eq rfl (cons_eq rfl (cons_eq (slot_eq (I_eq (iadd_one (i := i) (by omega)))) rfl))))), rfl, rfl, rfl⟩
              · rw [hg2, hbt, Bool.true_and]
              · exact e3
    · have hi2 : i = w.length := by (first | omega | (simp only [ilt_t, ilt_f, ile_t, ile_f, ieq_t, ieq_f, ofn, List.length_map, Bool.not_eq_true', Bool.not_eq_false'] at *; omega))
      have hF : goodFrom 0 w = true := by rw [← hg, hi2, List.drop_length]; rfl
      repeat' (first
        | (refine vb_t rfl ?_; conv => whnf)
        | (refine vb_f rfl ?_; conv => whnf)
        | (refine vb_t (by assumption) ?_; conv => whnf)
        | (refine vb_f (by assumption) ?_; conv => whnf)
        | fail)
      exact ⟨ret_B hF.symm, by trivial⟩
/-- Is it not more than is looked at? Some answer. -/
theorem light_ok (w : List Ln) (v : DV) (h : linesA w v) : ∃ b : Bool, Pur F0 38 [.d v] [] .no (.ret (B b)) .no := by
  have q0 := lt00
  obtain ⟨hl, hlen, ⟨rfl, rfl⟩ | rfl⟩ := h
  · refine ⟨true, ?_⟩
    refine pur_code code38_ok ?_
    conv => whnf
    repeat' (first
      | (refine vb_t rfl ?_; conv => whnf)
      | (refine vb_f rfl ?_; conv => whnf)
      | (refine vb_t (by assumption) ?_; conv => whnf)
      | (refine vb_f (by assumption) ?_; conv => whnf)
      | (refine vloop_once ?_; conv => whnf)
      | fail)
    exact ⟨by trivial, by trivial⟩
  · suffices hs : ∃ b : Bool, Pur F0 38 [.d (.sl 1 (w.map lnRow))] [] .no (.ret (B b)) .no ∧ True from ⟨hs.choose, hs.choose_spec.1⟩
    refine pur_ret (g := B) (Q := fun _ => True) code38_ok ?_
    conv => whnf
    refine vloop_eq2 (fr' := [(2, B false), (3, I ((0 : Nat) : Int)), (6, .d (.sl 1 (w.map lnRow))), (7, I (w.map lnRow).length), (8, I ((0 : Nat) : Int))]) rfl rfl ?_
    refine vloop_by (σ := { p : Nat × Nat // p.1 ≤ w.length ∧ p.2 ≤ 600 }) (fun p => [(2, B false), (3, I (p.1.2 : Int)), (6, .d (.sl 1 (w.map lnRow))), (7, I (w.map lnRow).length), (8, I (p.1.1 : Int))]) (fun _ => []) (fun p => w.length - p.1.1) ?_ ⟨(0, 0), by simp, by simp⟩
    rintro ⟨⟨i, n⟩, hi, hn⟩
    conv => whnf
    simp only at hi hn
    refine vb_i (fun h => ?_) (fun h => ?_) <;> conv => whnf
    · have hlt : i < w.length := by (first | omega | (simp only [ilt_t, ilt_f, ile_t, ile_f, ieq_t, ieq_f, ofn, List.length_map, Bool.not_eq_true', Bool.not_eq_false'] at *; omega))
      obtain ⟨⟨d, l⟩, hx⟩ : ∃ x, w[i]? = some x := ⟨w[i], List.getElem?_eq_getElem hlt⟩
      have hr : iget (w.map lnRow) (i : Int) = some (lnRow (d, l)) := iget_t (by rw [List.getElem?_map, hx]; rfl)
      have hll := hl (d, l) (List.mem_of_getElem? hx)
      have main : ∀ m : Nat, m ≤ 9223372036854775807 → ∃ m' : Nat, m' ≤ 1001 ∧ iadd .i64 (Int.ofNat 1) (imin (m : Int) (Int.ofNat 1000)) = (m' : Int) ∧ iadd .i64 (n : Int) (m' : Int) = ((n + m' : Nat) : Int) := by
        intro m hm
        have e : ∃ z : Nat, z ≤ 1000 ∧ imin (m : Int) (Int.ofNat 1000) = (z : Int) := by
          rw [imin_d, ofn]
          by_cases hz : (1000 : Int) < m
          · exact ⟨1000, by omega, by split <;> omega⟩
          · exact ⟨m, by omega, by split <;> omega⟩
        obtain ⟨z, hz, e⟩ := e
        refine ⟨1 + z, by omega, ?_, ?_⟩
        · rw [e, ofn, iadd64 (by omega) (by omega)]; omega
        · rw [iadd64 (by omega) (by omega)]; omega
      obtain ⟨⟨e1, e2⟩ | e1, hll⟩ := hll
      · obtain rfl : d = .nilsl := e1
        obtain rfl : l = [] := e2
        obtain ⟨m, hm, e1, e2⟩ := main 0 (by omega)
        have e1 : iadd .i64 (Int.ofNat 1) (imin 0 (Int.ofNat 1000)) = (m : Int) := e1
        repeat' (first
          | (refine vb_t rfl ?_; conv => whnf)
          | (refine vb_f rfl ?_; conv => whnf)
          | (refine vb_t (by assumption) ?_; conv => whnf)
          | (refine vb_f (by assumption) ?_; conv => whnf)
          | (refine vo_i hr ?_; conv => whnf)
          | (rw [e1, e2]; conv => whnf)
          | fail)
        refine vb_i (fun h6 => ?_) (fun h6 => ?_) <;> conv => whnf
        · repeat' (first
            | (refine vb_t rfl ?_; conv => whnf)
            | (refine vb_f rfl ?_; conv => whnf)
            | (refine vb_t (by assumption) ?_; conv => whnf)
            | (refine vb_f (by assumption) ?_; conv => whnf)
            | fail)
          exact ⟨false, rfl, rfl, trivial⟩
        · have h7 : n + m ≤ 600 := by rw [ilt_f, ofn] at h6; omega
          repeat' (first
            | (refine vb_t rfl ?_; conv => whnf)
            | (refine vb_f rfl ?_; conv => whnf)
            | (refine vb_t (by assumption) ?_; conv => whnf)
            | (refine vb_f (by assumption) ?_; conv => whnf)
            | fail)
          exact ⟨⟨(i + 1, n + m), hlt, h7⟩, by simp only; omega, cons_eq rfl (cons_eq rfl (cons_eq rfl (cons_eq rfl (cons_eq (slot_eq (I_eq (iadd_one (i := i) (by omega)))) rfl)))), rfl, rfl, rfl⟩
      · obtain rfl : d = .sl 2 (l.map bxRow) := e1
        have hll : l.length ≤ 9223372036854775807 := hll
        obtain ⟨m, hm, e1, e2⟩ := main (l.map bxRow).length (by rw [List.length_map]; exact hll)
        repeat' (first
          | (refine vb_t rfl ?_; conv => whnf)
          | (refine vb_f rfl ?_; conv => whnf)
          | (refine vb_t (by assumption) ?_; conv => whnf)
          | (refine vb_f (by assumption) ?_; conv => whnf)
          | (refine vo_i hr ?_; conv => whnf)
          | (rw [e1, e2]; conv => whnf)
          | fail)
        refine vb_i (fun h6 => ?_) (fun h6 => ?_) <;> conv => whnf
        · repeat' (first
            | (refine vb_t rfl ?_; conv => whnf)
            | (refine vb_f rfl ?_; conv => whnf)
            | (refine vb_t (by assumption) ?_; conv => whnf)
            | (refine vb_f (by assumption) ?_; conv => whnf)
            | fail)
          exact ⟨false, rfl, rfl, trivial⟩
        · have h7 : n + m ≤ 600 := by rw [ilt_f, ofn] at h6; omega
          repeat' (first
            | (refine vb_t rfl ?_; conv => whnf)
            | (refine vb_f rfl ?_; conv => whnf)
            | (refine vb_t (by assumption) ?_; conv => whnf)
            | (refine vb_f (by assumption) ?_; conv => whnf)
            | fail)
          exact ⟨⟨(i + 1, n + m), hlt, h7⟩, by simp only; omega, cons_eq rfl (cons_eq rfl (cons_eq rfl (cons_eq rfl (cons_eq (slot_eq (I_eq (iadd_one (i := i) (by omega)))) rfl)))), rfl, rfl, rfl⟩
    · repeat' (first
        | (refine vb_t rfl ?_; conv => whnf)
        | (refine vb_f rfl ?_; conv => whnf)
        | (refine vb_t (by assumption) ?_; conv => whnf)
        | (refine vb_f (by assumption) ?_; conv => whnf)
        | fail)
      exact ⟨true, rfl, rfl, trivial⟩
end Go.Proofs.YtapnjabhcdlhbaaGreatDoor.Ab
namespace Go.Proofs.YtapnjabhcdlhbaaGreatDoor.Ab
open Go
set_option linter.unusedSimpArgs false
set_option maxRecDepth 100000
set_option linter.unusedVariables false
set_option maxHeartbeats 4000000
def sameBx (a b : List Bx) : Bool := decide (a = b)
theorem sameB_ok (a b c d : Int) : Pur F0 103 [.agg [I a, I b], .agg [I c, I d]] [] .no (.ret (B (decide (((a, b) : Bx) = (c, d))))) .no := by
  refine pur_code code103_ok ?_
  conv => whnf
  refine ⟨ret_B ?_, by trivial⟩
  rw [ieq_d, ieq_d, Bool.eq_iff_iff]
  simp only [Bool.and_eq_true, decide_eq_true_eq, Prod.mk.injEq]
theorem dec_cons {α : Type} [DecidableEq α] {x y : α} {a b : List α} (h : x = y) : decide (x :: a = y :: b) = decide (a = b) := by
  subst h; rw [Bool.eq_iff_iff]; simp
theorem dec_cons_f {α : Type} [DecidableEq α] {x y : α} {a b : List α} (h : x ≠ y) : decide (x :: a = y :: b) = false := by simp [h]
theorem dec_len {α : Type} [DecidableEq α] {a b : List α} (h : a.length ≠ b.length) : decide (a = b) = false := by
  rw [decide_eq_false_iff_not]; rintro rfl; exact h rfl
theorem equal2_ok (d e : DV) (l m : List Bx) (hd : isLine d l) (he : isLine e m) : Drp F0 0 106 [.d d, .d e, .fn .pure 103 [] []] [] .no (.ret (B (sameBx l m))) [] .no := by
  have q0 : ilt (Int.ofNat 0) 0 = false := lt00
  have q00 : ieq 0 0 = true := by rw [ieq_t]
  obtain ⟨⟨rfl, rfl⟩ | rfl, hdl⟩ := hd
  · obtain ⟨⟨rfl, rfl⟩ | rfl, hel⟩ := he
    · refine drp_code code106_ok ?_
      conv => whnf
      repeat' (first
        | (refine vb_t rfl ?_; conv => whnf)
        | (refine vb_f rfl ?_; conv => whnf)
        | (refine vb_t (by assumption) ?_; conv => whnf)
        | (refine vb_f (by assumption) ?_; conv => whnf)
        | (rw [q00]; conv => whnf)
        | (refine vloop_once ?_; conv => whnf)
        | fail)
      exact ⟨by trivial, rfl, rfl⟩
    · refine drp_code code106_ok ?_
      conv => whnf
      by_cases hm : m = []
      · subst hm
        have q1 : ieq 0 (([] : List Bx).map bxRow).length = true := q00
        repeat' (first
          | (refine vb_t rfl ?_; conv => whnf)
          | (refine vb_f rfl ?_; conv => whnf)
          | (refine vb_t (by assumption) ?_; conv => whnf)
          | (refine vb_f (by assumption) ?_; conv => whnf)
          | (rw [q1]; conv => whnf)
          | (refine vloop_once ?_; conv => whnf)
          | fail)
        exact ⟨by trivial, rfl, rfl⟩
      · have hm2 : m.length ≠ 0 := fun h => hm (List.length_eq_zero_iff.1 h)
        have q1 : ieq 0 (m.map bxRow).length = false := by rw [ieq_f, List.length_map]; omega
        repeat' (first
          | (refine vb_t rfl ?_; conv => whnf)
          | (refine vb_f rfl ?_; conv => whnf)
          | (refine vb_t (by assumption) ?_; conv => whnf)
          | (refine vb_f (by assumption) ?_; conv => whnf)
          | (rw [q1]; conv => whnf)
          | fail)
        exact ⟨ret_B (dec_len (fun h => hm2 h.symm)).symm, rfl, rfl⟩
  · obtain ⟨⟨rfl, rfl⟩ | rfl, hel⟩ := he
    · refine drp_code code106_ok ?_
      conv => whnf
      by_cases hm : l = []
      · subst hm
        have q1 : ieq (([] : List Bx).map bxRow).length 0 = true := q00
        have q2 : ilt (Int.ofNat 0) (([] : List Bx).map bxRow).length = false := lt00
        repeat' (first
          | (refine vb_t rfl ?_; conv => whnf)
          | (refine vb_f rfl ?_; conv => whnf)
          | (refine vb_t (by assumption) ?_; conv => whnf)
          | (refine vb_f (by assumption) ?_; conv => whnf)
          | (rw [q1]; conv => whnf)
          | (refine vloop_once ?_; conv => whnf)
          | fail)
        exact ⟨by trivial, rfl, rfl⟩
      · have hm2 : l.length ≠ 0 := fun h => hm (List.length_eq_zero_iff.1 h)
        have q1 : ieq (l.map bxRow).length 0 = false := by rw [ieq_f, List.length_map]; omega
        repeat' (first
          | (refine vb_t rfl ?_; conv => whnf)
          | (refine vb_f rfl ?_; conv => whnf)
          | (refine vb_t (by assumption) ?_; conv => whnf)
          | (refine vb_f (by assumption) ?_; conv => whnf)
          | (rw [q1]; conv => whnf)
          | fail)
        exact ⟨ret_B (dec_len hm2).symm, rfl, rfl⟩
    · refine drp_code code106_ok ?_
      conv => whnf
      by_cases hlm : l.length = m.length
      · have q1 : ieq (l.map bxRow).length (m.map bxRow).length = true := by rw [ieq_t, List.length_map, List.length_map, hlm]
        repeat' (first
          | (refine vb_t rfl ?_; conv => whnf)
          | (refine vb_f rfl ?_; conv => whnf)
          | (refine vb_t (by assumption) ?_; conv => whnf)
          | (refine vb_f (by assumption) ?_; conv => whnf)
          | (rw [q1]; conv => whnf)
          | fail)
        refine vloop_eq2 (fr' := [(0, .d (.sl 2 (l.map bxRow))), (1, .d (.sl 2 (m.map bxRow))), (2, .fn .pure 103 [] []), (6, B false), (14, I (l.map bxRow).length), (15, I ((0 : Nat) : Int))]) rfl rfl ?_
        refine vloop_by (σ := { k : Nat // k ≤ l.length ∧ decide (l.drop k = m.drop k) = sameBx l m }) (fun k => [(0, .d (.sl 2 (l.map bxRow))), (1, .d (.sl 2 (m.map bxRow))), (2, .fn .pure 103 [] []), (6, B false), (14, I (l.map bxRow).length), (15, I (k.1 : Int))]) (fun _ => []) (fun k => l.length - k.1) ?_ ⟨0, Nat.zero_le _, rfl⟩
        rintro ⟨k, hk, hb⟩
        conv => whnf
        refine vb_i (fun h' => ?_) (fun h' => ?_) <;> conv => whnf
        · have hlk : k < l.length := by (first | omega | (simp only [ilt_t, ilt_f, ile_t, ile_f, ieq_t, ieq_f, ofn, List.length_map, Bool.not_eq_true', Bool.not_eq_false'] at *; omega))
          obtain ⟨⟨x, y⟩, hxy⟩ : ∃ b, l[k]? = some b := ⟨l[k], List.getElem?_eq_getElem hlk⟩
          obtain ⟨⟨z, t⟩, hzt⟩ : ∃ b, m[k]? = some b := ⟨m[k], List.getElem?_eq_getElem (by omega)⟩
          have hr : iget (l.map bxRow) (k : Int) = some (bxRow (x, y)) := iget_t (by rw [List.getElem?_map, hxy]; rfl)
          have hr2 : iget (m.map bxRow) (k : Int) = some (bxRow (z, t)) := iget_t (by rw [List.getElem?_map, hzt]; rfl)
          rw [drop_get hxy, drop_get hzt] at hb
          by_cases hs : ((x, y) : Bx) = (z, t)
          · have q2 : decide (((x, y) : Bx) = (z, t)) = true := decide_eq_true hs
            repeat' (first
              | (refine vb_t rfl ?_; conv => whnf)
              | (refine vb_f rfl ?_; conv => whnf)
              | (refine vb_t (by assumption) ?_; conv => whnf)
              | (refine vb_f (by assumption) ?_; conv => whnf)
              | (refine vo_i hr ?_; conv => whnf)
              | (refine vo_i hr2 ?_; conv => whnf)
              | (refine vpur_i (sameB_ok x y z t) ?_; conv => whnf)
              | (rw [q2]; conv => whnf)
              | fail)
            refine ⟨⟨k + 1, hlk, ?_⟩, by simp only; omega, cons_eq rfl (cons_eq rfl (cons_eq rfl (cons_eq rfl (cons_eq rfl (cons_eq (slot_eq (I_eq (iadd_one (i := k) (by omega)))) rfl))))), rfl, rfl, rfl⟩
            rw [← hb, dec_cons hs]
          · have q2 : decide (((x, y) : Bx) = (z, t)) = false := decide_eq_false hs
            repeat' (first
              | (refine vb_t rfl ?_; conv => whnf)
              | (refine vb_f rfl ?_; conv => whnf)
              | (refine vb_t (by assumption) ?_; conv => whnf)
              | (refine vb_f (by assumption) ?_; conv => whnf)
              | (refine vo_i hr ?_; conv => whnf)
              | (refine vo_i hr2 ?_; conv => whnf)
              | (refine vpur_i (sameB_ok x y z t) ?_; conv => whnf)
              | (rw [q2]; conv => whnf)
              | fail)
            refine ⟨ret_B ?_, rfl, rfl⟩
            rw [← hb, dec_cons_f hs]
        · have hk2 : k = l.length := by (first | omega | (simp only [ilt_t, ilt_f, ile_t, ile_f, ieq_t, ieq_f, ofn, List.length_map, Bool.not_eq_true', Bool.not_eq_false'] at *; omega))
          have hF : sameBx l m = true := by rw [← hb, hk2, List.drop_length, hlm, List.drop_length]; rfl
          repeat' (first
            | (refine vb_t rfl ?_; conv => whnf)
            | (refine vb_f rfl ?_; conv => whnf)
            | (refine vb_t (by assumption) ?_; conv => whnf)
            | (refine vb_f (by assumption) ?_; conv => whnf)
            | fail)
          exact ⟨ret_B hF.symm, rfl, rfl⟩
      · have q1 : ieq (l.map bxRow).length (m.map bxRow).length = false := by rw [ieq_f, List.length_map, List.length_map]; omega
        repeat' (first
          | (refine vb_t rfl ?_; conv => whnf)
          | (refine vb_f rfl ?_; conv => whnf)
          | (refine vb_t (by assumption) ?_; conv => whnf)
          | (refine vb_f (by assumption) ?_; conv => whnf)
          | (rw [q1]; conv => whnf)
          | fail)
        exact ⟨ret_B (dec_len hlm).symm, rfl, rfl⟩
section
variable (ty : Nat)
abbrev fnB : AV := .fn .pure 103 [] []
abbrev fnL : AV := .fn .drop 105 [] [.ptr 0 0]
abbrev hB : Heap := [⟨.mine, ty, .fix [fnB]⟩]
theorem lines_ok (d e : DV) (l m : List Bx) (hd : isLine d l) (he : isLine e m) : Drp F0 1 105 [.d d, .d e, .ptr 0 0] (hB ty) .no (.ret (B (sameBx l m))) (hB ty) .no := by
  refine drp_code code105_ok ?_
  conv => whnf
  repeat' (first
    | (refine vb_t rfl ?_; conv => whnf)
    | (refine vb_f rfl ?_; conv => whnf)
    | (refine vb_t (by assumption) ?_; conv => whnf)
    | (refine vb_f (by assumption) ?_; conv => whnf)
    | (refine vdrp_i (equal2_ok d e l m hd he) ?_; conv => whnf)
    | fail)
  exact ⟨by trivial, rfl, rfl⟩
def sameLn (w v : List Ln) : Bool := decide (w.map (·.2) = v.map (·.2))
theorem same_len {w v : List Ln} (h : w.length ≠ v.length) : sameLn w v = false := dec_len (by rwa [List.length_map, List.length_map])
theorem equal1_ok (d e : DV) (w v : List Ln) (hd : linesA w d) (he : linesA v e) : Drp F0 1 104 [.d d, .d e, fnL] (hB ty) .no (.ret (B (sameLn w v))) (hB ty) .no := by
  have q0 : ilt (Int.ofNat 0) 0 = false := lt00
  have q00 : ieq 0 0 = true := by rw [ieq_t]
  obtain ⟨hl, hdl, ⟨rfl, rfl⟩ | rfl⟩ := hd
  · obtain ⟨hm, hel, ⟨rfl, rfl⟩ | rfl⟩ := he
    · refine drp_code code104_ok ?_
      conv => whnf
      repeat' (first
        | (refine vb_t rfl ?_; conv => whnf)
        | (refine vb_f rfl ?_; conv => whnf)
        | (refine vb_t (by assumption) ?_; conv => whnf)
        | (refine vb_f (by assumption) ?_; conv => whnf)
        | (rw [q00]; conv => whnf)
        | (refine vloop_once ?_; conv => whnf)
        | fail)
      exact ⟨by trivial, rfl, rfl⟩
    · refine drp_code code104_ok ?_
      conv => whnf
      by_cases hz : v = []
      · subst hz
        have q1 : ieq 0 (([] : List Ln).map lnRow).length = true := q00
        repeat' (first
          | (refine vb_t rfl ?_; conv => whnf)
          | (refine vb_f rfl ?_; conv => whnf)
          | (refine vb_t (by assumption) ?_; conv => whnf)
          | (refine vb_f (by assumption) ?_; conv => whnf)
          | (rw [q1]; conv => whnf)
          | (refine vloop_once ?_; conv => whnf)
          | fail)
        exact ⟨by trivial, rfl, rfl⟩
      · have hm2 : v.length ≠ 0 := fun h => hz (List.length_eq_zero_iff.1 h)
        have q1 : ieq 0 (v.map lnRow).length = false := by rw [ieq_f, List.length_map]; omega
        repeat' (first
          | (refine vb_t rfl ?_; conv => whnf)
          | (refine vb_f rfl ?_; conv => whnf)
          | (refine vb_t (by assumption) ?_; conv => whnf)
          | (refine vb_f (by assumption) ?_; conv => whnf)
          | (rw [q1]; conv => whnf)
          | fail)
        exact ⟨ret_B (same_len (fun h => hm2 h.symm)).symm, rfl, rfl⟩
  · obtain ⟨hm, hel, ⟨rfl, rfl⟩ | rfl⟩ := he
    · refine drp_code code104_ok ?_
      conv => whnf
      by_cases hz : w = []
      · subst hz
        have q1 : ieq (([] : List Ln).map lnRow).length 0 = true := q00
        have q2 : ilt (Int.ofNat 0) (([] : List Ln).map lnRow).length = false := lt00
        repeat' (first
          | (refine vb_t rfl ?_; conv => whnf)
          | (refine vb_f rfl ?_; conv => whnf)
          | (refine vb_t (by assumption) ?_; conv => whnf)
          | (refine vb_f (by assumption) ?_; conv => whnf)
          | (rw [q1]; conv => whnf)
          | (refine vloop_once ?_; conv => whnf)
          | fail)
        exact ⟨by trivial, rfl, rfl⟩
      · have hm2 : w.length ≠ 0 := fun h => hz (List.length_eq_zero_iff.1 h)
        have q1 : ieq (w.map lnRow).length 0 = false := by rw [ieq_f, List.length_map]; omega
        repeat' (first
          | (refine vb_t rfl ?_; conv => whnf)
          | (refine vb_f rfl ?_; conv => whnf)
          | (refine vb_t (by assumption) ?_; conv => whnf)
          | (refine vb_f (by assumption) ?_; conv => whnf)
          | (rw [q1]; conv => whnf)
          | fail)
        exact ⟨ret_B (same_len hm2).symm, rfl, rfl⟩
    · refine drp_code code104_ok ?_
      conv => whnf
      by_cases hlm : w.length = v.length
      · have q1 : ieq (w.map lnRow).length (v.map lnRow).length = true := by rw [ieq_t, List.length_map, List.length_map, hlm]
        repeat' (first
          | (refine vb_t rfl ?_; conv => whnf)
          | (refine vb_f rfl ?_; conv => whnf)
          | (refine vb_t (by assumption) ?_; conv => whnf)
          | (refine vb_f (by assumption) ?_; conv => whnf)
          | (rw [q1]; conv => whnf)
          | fail)
        refine vloop_eq2 (fr' := [(0, .d (.sl 1 (w.map lnRow))), (1, .d (.sl 1 (v.map lnRow))), (2, fnL), (6, B false), (14, I (w.map lnRow).length), (15, I ((0 : Nat) : Int))]) rfl rfl ?_
        refine vloop_by (σ := { k : Nat // k ≤ w.length ∧ sameLn (w.drop k) (v.drop k) = sameLn w v }) (fun k => [(0, .d (.sl 1 (w.map lnRow))), (1, .d (.sl 1 (v.map lnRow))), (2, fnL), (6, B false), (14, I (w.map lnRow).length), (15, I (k.1 : Int))]) (fun _ => hB ty) (fun k => w.length - k.1) ?_ ⟨0, Nat.zero_le _, rfl⟩
        rintro ⟨k, hk, hb⟩
        conv => whnf
        refine vb_i (fun h' => ?_) (fun h' => ?_) <;> conv => whnf
        · have hlk : k < w.length := by (first | omega | (simp only [ilt_t, ilt_f, ile_t, ile_f, ieq_t, ieq_f, ofn, List.length_map, Bool.not_eq_true', Bool.not_eq_false'] at *; omega))
          obtain ⟨⟨x, l⟩, hx⟩ : ∃ b, w[k]? = some b := ⟨w[k], List.getElem?_eq_getElem hlk⟩
          obtain ⟨⟨y, m⟩, hy⟩ : ∃ b, v[k]? = some b := ⟨v[k], List.getElem?_eq_getElem (by omega)⟩
          have hr : iget (w.map lnRow) (k : Int) = some (lnRow (x, l)) := iget_t (by rw [List.getElem?_map, hx]; rfl)
          have hr2 : iget (v.map lnRow) (k : Int) = some (lnRow (y, m)) := iget_t (by rw [List.getElem?_map, hy]; rfl)
          rw [drop_get hx, drop_get hy] at hb
          have c := lines_ok ty x y l m (hl _ (List.mem_of_getElem? hx)) (hm _ (List.mem_of_getElem? hy))
          by_cases hs : l = m
          · have q2 : sameBx l m = true := decide_eq_true hs
            repeat' (first
              | (refine vb_t rfl ?_; conv => whnf)
              | (refine vb_f rfl ?_; conv => whnf)
              | (refine vb_t (by assumption) ?_; conv => whnf)
              | (refine vb_f (by assumption) ?_; conv => whnf)
              | (refine vo_i hr ?_; conv => whnf)
              | (refine vo_i hr2 ?_; conv => whnf)
              | (refine vdrp_i c ?_; conv => whnf)
              | (rw [q2]; conv => whnf)
              | fail)
            refine ⟨⟨k + 1, hlk, ?_⟩, by simp only; omega, cons_eq rfl (cons_eq rfl (cons_eq rfl (cons_eq rfl (cons_eq rfl (cons_eq (slot_eq (I_eq (iadd_one (i := k) (by omega)))) rfl))))), rfl, rfl, rfl⟩
            rw [← hb]; exact (dec_cons hs).symm
          · have q2 : sameBx l m = false := decide_eq_false hs
            repeat' (first
              | (refine vb_t rfl ?_; conv => whnf)
              | (refine vb_f rfl ?_; conv => whnf)
              | (refine vb_t (by assumption) ?_; conv => whnf)
              | (refine vb_f (by assumption) ?_; conv => whnf)
              | (refine vo_i hr ?_; conv => whnf)
              | (refine vo_i hr2 ?_; conv => whnf)
              | (refine vdrp_i c ?_; conv => whnf)
              | (rw [q2]; conv => whnf)
              | fail)
            refine ⟨ret_B ?_, rfl, rfl⟩
            rw [← hb]; exact (dec_cons_f hs).symm
        · have hk2 : k = w.length := by (first | omega | (simp only [ilt_t, ilt_f, ile_t, ile_f, ieq_t, ieq_f, ofn, List.length_map, Bool.not_eq_true', Bool.not_eq_false'] at *; omega))
          have hF : sameLn w v = true := by rw [← hb, hk2, List.drop_length, hlm, List.drop_length]; rfl
          repeat' (first
            | (refine vb_t rfl ?_; conv => whnf)
            | (refine vb_f rfl ?_; conv => whnf)
            | (refine vb_t (by assumption) ?_; conv => whnf)
            | (refine vb_f (by assumption) ?_; conv => whnf)
            | fail)
          exact ⟨ret_B hF.symm, rfl, rfl⟩
      · have q1 : ieq (w.map lnRow).length (v.map lnRow).length = false := by rw [ieq_f, List.length_map, List.length_map]; omega
        repeat' (first
          | (refine vb_t rfl ?_; conv => whnf)
          | (refine vb_f rfl ?_; conv => whnf)
          | (refine vb_t (by assumption) ?_; conv => whnf)
          | (refine vb_f (by assumption) ?_; conv => whnf)
          | (rw [q1]; conv => whnf)
          | fail)
        exact ⟨ret_B (same_len hlm).symm, rfl, rfl⟩
end
theorem same_ok (d e : DV) (w v : List Ln) (hd : linesA w d) (he : linesA v e) : Pur F0 43 [.d d, .d e] [] .no (.ret (B (sameLn w v))) .no := by
  refine pur_code code43_ok ?_
  conv => whnf
  repeat' (first
    | (refine vb_t rfl ?_; conv => whnf)
    | (refine vb_f rfl ?_; conv => whnf)
    | (refine vb_t (by assumption) ?_; conv => whnf)
    | (refine vb_f (by assumption) ?_; conv => whnf)
    | (refine vdrp_i (equal1_ok _ d e w v hd he) ?_; conv => whnf)
    | fail)
  exact ⟨by trivial, by trivial⟩
end Go.Proofs.YtapnjabhcdlhbaaGreatDoor.Ab
namespace Go.Proofs.YtapnjabhcdlhbaaGreatDoor.Ab
open Go
set_option linter.unusedSimpArgs false
set_option maxRecDepth 100000
set_option linter.unusedVariables false
set_option maxHeartbeats 4000000
def pxText (n : Int) : List UInt8 := numText n 64 ++ [112, 120]
def boxText (b : Bx) : List UInt8 := pxText b.1 ++ [32] ++ pxText b.2
def lineText (l : List Bx) : List UInt8 := Lib.join (l.map boxText) [44, 32]
def wordsText (w : List Ln) : List UInt8 := if w = [] then [110, 111, 110, 101] else if goodFrom 0 w = true then Lib.join (w.map fun x => lineText x.2) [32, 47, 32] else []
theorem px_ok (n : Int) : Pur F0 101 [I n] [] .no (.ret (S (pxText n))) .no := by
  have l1 := numText_len n 64
  have r1 : roomS ((numText n (Int.ofNat 64)).length + ([112, 120] : List UInt8).length) = true := roomS_t (Nat.le_trans (Nat.add_le_add_right l1 2) (by decide))
  refine pur_code code101_ok ?_
  conv => whnf
  repeat' (first
    | (refine vb_t rfl ?_; conv => whnf)
    | (refine vb_f rfl ?_; conv => whnf)
    | (refine vb_t (by assumption) ?_; conv => whnf)
    | (refine vb_f (by assumption) ?_; conv => whnf)
    | (refine vpur_i (ndText_ok _ _) ?_; conv => whnf)
    | fail)
  exact ⟨by trivial, by trivial⟩
/-- Texts, as they lie. -/
def strRow (s : List UInt8) : List DV := [.str s]
def strV (i : Nat) : Option (Nat × List (List UInt8)) → AV
  | none => .d .nilsl
  | some (g, l) => .osl i g 0 l.length
def strH : Option (Nat × List (List UInt8)) → Heap
  | none => []
  | some (g, l) => [⟨.mine, 9, .arr true g 1 (l.map strRow)⟩]
def strs : Option (Nat × List (List UInt8)) → List (List UInt8)
  | none => []
  | some (_, l) => l
abbrev fnP : AV := .fn .pure 101 [] []
theorem pxText_len (n : Int) : (pxText n).length ≤ 202 := by have := numText_len n 64; unfold pxText; rw [List.length_append]; simp; omega
theorem boxText_len (b : Bx) : (boxText b).length ≤ 405 := by
  have h1 := pxText_len b.1
  have h2 := pxText_len b.2
  unfold boxText; simp only [List.length_append, List.length_cons, List.length_nil]; omega
theorem good_all : ∀ (w : List Ln) (n : Nat), goodFrom n w = true → ∀ x ∈ w, x.2.length ≤ 256 ∧ x.2 ≠ []
  | [], _, _ => fun x hx => by cases hx
  | y :: r, n, h => by
    simp only [goodFrom, Bool.and_eq_true, decide_eq_true_eq, Bool.not_eq_true'] at h
    obtain ⟨⟨⟨h1, h2⟩, h3⟩, h4⟩ := h
    intro x hx
    rcases List.mem_cons.1 hx with rfl | hx
    · exact ⟨by omega, fun e => by rw [e] at h1; cases h1⟩
    · exact good_all r _ h4 x hx
theorem good_many : ∀ (w : List Ln) (n : Nat), n ≤ 256 → goodFrom n w = true → n + w.length ≤ 256
  | [], n, hn, _ => hn
  | y :: r, n, hn, h => by
    simp only [goodFrom, Bool.and_eq_true, decide_eq_true_eq, Bool.not_eq_true'] at h
    obtain ⟨⟨⟨h1, h2⟩, h3⟩, h4⟩ := h
    have := good_many r _ h2 h4
    have h5 : y.2.length ≠ 0 := fun e => by rw [List.length_eq_zero_iff.1 e] at h1; cases h1
    simp only [List.length_cons]; omega
theorem join_le (sep : List UInt8) (m : Nat) : ∀ l : List (List UInt8), (∀ x ∈ l, x.length ≤ m) → (Lib.join l sep).length ≤ l.length * (m + sep.length)
  | [], _ => by simp [Lib.join]
  | [a], h => by
    have := h a (by simp)
    rw [Lib.join_one]; simp; omega
  | a :: b :: l, h => by
    have h1 := join_le sep m (b :: l) fun x hx => h x (List.mem_cons_of_mem _ hx)
    have h2 := h a (by simp)
    have e : Lib.join (a :: b :: l) sep = a ++ (sep ++ Lib.join (b :: l) sep) := by simp [Lib.join_cons, Lib.joinTail]
    rw [e]
    simp only [List.length_append, List.length_cons] at h1 ⊢
    rw [Nat.succ_mul]; omega
theorem take_get {α : Type} {l : List α} {i : Nat} {x : α} (h : l[i]? = some x) : l.take (i + 1) = l.take i ++ [x] := by
  rw [List.take_add_one, h]; rfl
theorem wtext_ok (w : List Ln) (v : DV) (h : linesA w v) : Pur F0 41 [.d v] [] .no (.ret (S (wordsText w))) .no := by
  have hgd := wgood_ok w v h
  obtain ⟨hl, hlen, ⟨rfl, rfl⟩ | rfl⟩ := h
  · refine pur_code code41_ok ?_
    conv => whnf
    have q0 : ieq 0 (Int.ofNat 0) = true := eq00
    repeat' (first
      | (refine vb_t rfl ?_; conv => whnf)
      | (refine vb_f rfl ?_; conv => whnf)
      | (refine vb_t (by assumption) ?_; conv => whnf)
      | (refine vb_f (by assumption) ?_; conv => whnf)
      | fail)
    exact ⟨by trivial, by trivial⟩
  · refine pur_code code41_ok ?_
    conv => whnf
    by_cases hz : w = []
    · subst hz
      have q0 : ieq ((([] : List Ln).map lnRow).length : Int) (Int.ofNat 0) = true := eq00
      repeat' (first
        | (refine vb_t rfl ?_; conv => whnf)
        | (refine vb_f rfl ?_; conv => whnf)
        | (refine vb_t (by assumption) ?_; conv => whnf)
        | (refine vb_f (by assumption) ?_; conv => whnf)
        | fail)
      exact ⟨by trivial, by trivial⟩
    · have q0 : ieq ((w.map lnRow).length : Int) (Int.ofNat 0) = false := by rw [ieq_f, List.length_map, ofn]; intro h8; exact hz (List.length_eq_zero_iff.1 (by omega))
      by_cases hg : goodFrom 0 w = true
      · have q1 : (!goodFrom 0 w) = false := by rw [hg]; rfl
        repeat' (first
          | (refine vb_t rfl ?_; conv => whnf)
          | (refine vb_f rfl ?_; conv => whnf)
          | (refine vb_t (by assumption) ?_; conv => whnf)
          | (refine vb_f (by assumption) ?_; conv => whnf)
          | (refine vpur_i hgd ?_; conv => whnf)
          | fail)
        refine vloop_eq2 (fr' := [(2, S []), (3, fnP), (4, strV 0 none), (18, .d (.sl 1 (w.map lnRow))), (19, I (w.map lnRow).length), (20, I ((0 : Nat) : Int))]) (h' := strH none) rfl rfl ?_
        refine vloop_by (σ := { x : Nat × Option (Nat × List (List UInt8)) // x.1 ≤ w.length ∧ strs x.2 = (w.take x.1).map fun y => lineText y.2 }) (fun x => [(2, S []), (3, fnP), (4, strV 0 x.1.2), (18, .d (.sl 1 (w.map lnRow))), (19, I (w.map lnRow).length), (20, I (x.1.1 : Int))]) (fun x => strH x.1.2) (fun x => w.length - x.1.1) ?_ ⟨(0, none), Nat.zero_le _, rfl⟩
        have hne := good_all w 0 hg
        rintro ⟨⟨i, o⟩, hi, ho⟩
        simp only at hi ho
        rcases o with _ | ⟨g, ol⟩
        · conv => whnf
          refine vb_i (fun h' => ?_) (fun h' => ?_) <;> conv => whnf
          · have hlt : i < w.length := by (first | omega | (simp only [ilt_t, ilt_f, ile_t, ile_f, ieq_t, ieq_f, ofn, List.length_map, Bool.not_eq_true', Bool.not_eq_false'] at *; omega))
            obtain ⟨⟨d, l⟩, hx⟩ : ∃ x, w[i]? = some x := ⟨w[i], List.getElem?_eq_getElem hlt⟩
            have hr : iget (w.map lnRow) (i : Int) = some (lnRow (d, l)) := iget_t (by rw [List.getElem?_map, hx]; rfl)
            obtain ⟨h1, hll⟩ := hl _ (List.mem_of_getElem? hx)
            have hll : l.length ≤ 9223372036854775807 := hll
            have hl256 : l.length ≤ 256 := (hne (d, l) (List.mem_of_getElem? hx)).1
            rcases h1 with ⟨e1, e2⟩ | e1
            · exact ((hne (d, l) (List.mem_of_getElem? hx)).2 e2).elim
            · obtain rfl : d = .sl 2 (l.map bxRow) := e1
              repeat' (first
                | (refine vb_t rfl ?_; conv => whnf)
                | (refine vb_f rfl ?_; conv => whnf)
                | (refine vb_t (by assumption) ?_; conv => whnf)
                | (refine vb_f (by assumption) ?_; conv => whnf)
                | (refine vo_i hr ?_; conv => whnf)
                | fail)
              refine vloop_eq2 (fr' := [(2, S []), (3, fnP), (4, .d .nilsl), (7, strV 0 none), (18, .d (.sl 1 (w.map lnRow))), (19, I (w.map lnRow).length), (20, I (i : Int)), (24, .d (.sl 2 (l.map bxRow))), (25, I (l.map bxRow).length), (26, I ((0 : Nat) : Int))]) (h' := strH none ++ strH none) rfl rfl ?_
              refine vloop_by (σ := { x : Nat × Option (Nat × List (List UInt8)) // x.1 ≤ l.length ∧ strs x.2 = (l.take x.1).map boxText }) (fun x => [(2, S []), (3, fnP), (4, .d .nilsl), (7, strV 0 x.1.2), (18, .d (.sl 1 (w.map lnRow))), (19, I (w.map lnRow).length), (20, I (i : Int)), (24, .d (.sl 2 (l.map bxRow))), (25, I (l.map bxRow).length), (26, I (x.1.1 : Int))]) (fun x => strH none ++ strH x.1.2) (fun x => l.length - x.1.1) ?_ ⟨(0, none), Nat.zero_le _, rfl⟩
              rintro ⟨⟨k, b⟩, hk, hb⟩
              simp only at hk hb
              rcases b with _ | ⟨g2, bl⟩
              · conv => whnf
                refine vb_i (fun h' => ?_) (fun h' => ?_) <;> conv => whnf
                · have hlk : k < l.length := by (first | omega | (simp only [ilt_t, ilt_f, ile_t, ile_f, ieq_t, ieq_f, ofn, List.length_map, Bool.not_eq_true', Bool.not_eq_false'] at *; omega))
                  obtain ⟨⟨x, y⟩, hxy⟩ : ∃ b, l[k]? = some b := ⟨l[k], List.getElem?_eq_getElem hlk⟩
                  have hr2 : iget (l.map bxRow) (k : Int) = some (bxRow (x, y)) := iget_t (by rw [List.getElem?_map, hxy]; rfl)
                  have t1 := pxText_len x
                  have t2 := pxText_len y
                  repeat' (first
                    | (refine vb_t rfl ?_; conv => whnf)
                    | (refine vb_f rfl ?_; conv => whnf)
                    | (refine vb_t (by assumption) ?_; conv => whnf)
                    | (refine vb_f (by assumption) ?_; conv => whnf)
                    | (refine vo_i hr2 ?_; conv => whnf)
                    | (refine vpur_i (px_ok _) ?_; conv => whnf)
                    | (refine vb_t (roomS_t (by simp; omega)) ?_; conv => whnf)
                    | (refine vb_t (room_t (by simp <;> omega)) ?_; conv => whnf)
                    | fail)
                  refine ⟨⟨(k + 1, some (0, [boxText (x, y)])), hlk, ?_⟩, by simp only; omega, cons_eq rfl (cons_eq rfl (cons_eq rfl (cons_eq rfl (cons_eq rfl (cons_eq rfl (cons_eq rfl (cons_eq rfl (cons_eq rfl (cons_eq (slot_eq (I_eq (iadd_one (i := k) (by omega)))) rfl))))))))), rfl, rfl, rfl⟩
                  simp only [take_get hxy, List.map_append, ← hb]; rfl
                · have hk2 : k = l.length := by (first | omega | (simp only [ilt_t, ilt_f, ile_t, ile_f, ieq_t, ieq_f, ofn, List.length_map, Bool.not_eq_true', Bool.not_eq_false'] at *; omega))
                  have h9 : l = [] := by
                    have := congrArg List.length hb
                    simp [strs] at this
                    exact List.length_eq_zero_iff.1 (by omega)
                  exact ((hne _ (List.mem_of_getElem? hx)).2 h9).elim
              · conv => whnf
                refine vb_i (fun h' => ?_) (fun h' => ?_) <;> conv => whnf
                · have hlk : k < l.length := by (first | omega | (simp only [ilt_t, ilt_f, ile_t, ile_f, ieq_t, ieq_f, ofn, List.length_map, Bool.not_eq_true', Bool.not_eq_false'] at *; omega))
                  obtain ⟨⟨x, y⟩, hxy⟩ : ∃ b, l[k]? = some b := ⟨l[k], List.getElem?_eq_getElem hlk⟩
                  have hr2 : iget (l.map bxRow) (k : Int) = some (bxRow (x, y)) := iget_t (by rw [List.getElem?_map, hxy]; rfl)
                  have t1 := pxText_len x
                  have t2 := pxText_len y
                  have hbl : bl.length ≤ 256 := by
                    have := congrArg List.length hb
                    simp [strs] at this; omega
                  have hgg : Nat.beq g2 g2 = true := by simp
                  have hq : ieq (bl.length : Int) ((bl.map strRow).length : Int) = true := by rw [ieq_t]; simp
                  repeat' (first
                    | (refine vb_t rfl ?_; conv => whnf)
                    | (refine vb_f rfl ?_; conv => whnf)
                    | (refine vb_t (by assumption) ?_; conv => whnf)
                    | (refine vb_f (by assumption) ?_; conv => whnf)
                    | (refine vo_i hr2 ?_; conv => whnf)
                    | (refine vpur_i (px_ok _) ?_; conv => whnf)
                    | (refine vb_t (roomS_t (by simp; omega)) ?_; conv => whnf)
                    | (refine vb_t (room_t (by simp <;> omega)) ?_; conv => whnf)
                    | fail)
                  refine ⟨⟨(k + 1, some (g2 + 1, bl ++ [boxText (x, y)])), hlk, ?_⟩, by simp only; omega, cons_eq rfl (cons_eq rfl (cons_eq rfl (cons_eq (slot_eq (osl_eq rfl (by simp))) (cons_eq rfl (cons_eq rfl (cons_eq rfl (cons_eq rfl (cons_eq rfl (cons_eq (slot_eq (I_eq (iadd_one (i := k) (by omega)))) rfl))))))))), cons_eq (arr_eq (by rw [List.map_append]; rfl)) rfl, rfl, rfl⟩
                  simp only [take_get hxy, List.map_append, ← hb]; rfl
                · have hk2 : k = l.length := by (first | omega | (simp only [ilt_t, ilt_f, ile_t, ile_f, ieq_t, ieq_f, ofn, List.length_map, Bool.not_eq_true', Bool.not_eq_false'] at *; omega))
                  have hbt : bl = l.map boxText := by rw [hk2, List.take_length] at hb; exact hb
                  have hcut : (((bl.map strRow).take bl.length).drop 0) = bl.map fun s => [DV.str s] := by rw [List.drop_zero, List.take_of_length_le (by simp)]; rfl
                  have hjl : (Lib.join bl [44, 32]).length ≤ 140737488355328 := by
                    have := join_le [44, 32] 405 bl (fun x hx => by rw [hbt] at hx; obtain ⟨b, _, rfl⟩ := List.mem_map.1 hx; exact boxText_len b)
                    have h8 : bl.length ≤ 256 := by rw [hbt, List.length_map]; exact hl256
                    simp only [List.length_cons, List.length_nil] at this; omega
                  have j := join_ok bl [44, 32] (by rw [hbt, List.length_map]; omega) hjl
                  have hgg : Nat.beq g2 g2 = true := by simp
                  have hem : (bl.map strRow).isEmpty = false := by
                    have h8 := (hne _ (List.mem_of_getElem? hx)).2
                    rw [hbt]
                    cases l with
                    | nil => exact (h8 rfl).elim
                    | cons => rfl
                  repeat' (first
                    | (refine vb_t rfl ?_; conv => whnf)
                    | (refine vb_f rfl ?_; conv => whnf)
                    | (refine vb_t (by assumption) ?_; conv => whnf)
                    | (refine vb_f (by assumption) ?_; conv => whnf)
                    | (rw [hcut]; conv => whnf)
                    | (refine vpur_i (j _) ?_; conv => whnf)
                    | (refine vb_t (room_t (by simp <;> omega)) ?_; conv => whnf)
                    | fail)
                  refine ⟨⟨(i + 1, some (0, [Lib.join bl [44, 32]])), hlt, ?_⟩, by simp only; omega, cons_eq rfl (cons_eq rfl (cons_eq (rfl) (cons_eq rfl (cons_eq rfl (cons_eq (slot_eq (I_eq (iadd_one (i := i) (by omega)))) rfl))))), rfl, rfl, rfl⟩
                  simp only [take_get hx, List.map_append, ← ho]; rw [hbt]; rfl
          · have hi2 : i = w.length := by (first | omega | (simp only [ilt_t, ilt_f, ile_t, ile_f, ieq_t, ieq_f, ofn, List.length_map, Bool.not_eq_true', Bool.not_eq_false'] at *; omega))
            have h8 := congrArg List.length ho
            simp [strs] at h8
            exact (hz (List.length_eq_zero_iff.1 (by omega))).elim
        · have hol : ol.length = i := by
            have h8 := congrArg List.length ho
            simp [strs] at h8; omega
          have hw256 := good_many w 0 (by omega) hg
          have hgo : Nat.beq g g = true := by simp
          have hqo : ieq (ol.length : Int) ((ol.map strRow).length : Int) = true := by rw [ieq_t]; simp
          conv => whnf
          refine vb_i (fun h' => ?_) (fun h' => ?_) <;> conv => whnf
          · have hlt : i < w.length := by (first | omega | (simp only [ilt_t, ilt_f, ile_t, ile_f, ieq_t, ieq_f, ofn, List.length_map, Bool.not_eq_true', Bool.not_eq_false'] at *; omega))
            obtain ⟨⟨d, l⟩, hx⟩ : ∃ x, w[i]? = some x := ⟨w[i], List.getElem?_eq_getElem hlt⟩
            have hr : iget (w.map lnRow) (i : Int) = some (lnRow (d, l)) := iget_t (by rw [List.getElem?_map, hx]; rfl)
            obtain ⟨h1, hll⟩ := hl _ (List.mem_of_getElem? hx)
            have hll : l.length ≤ 9223372036854775807 := hll
            have hl256 : l.length ≤ 256 := (hne (d, l) (List.mem_of_getElem? hx)).1
            rcases h1 with ⟨e1, e2⟩ | e1
            · exact ((hne (d, l) (List.mem_of_getElem? hx)).2 e2).elim
            · obtain rfl : d = .sl 2 (l.map bxRow) := e1
              repeat' (first
                | (refine vb_t rfl ?_; conv => whnf)
                | (refine vb_f rfl ?_; conv => whnf)
                | (refine vb_t (by assumption) ?_; conv => whnf)
                | (refine vb_f (by assumption) ?_; conv => whnf)
                | (refine vo_i hr ?_; conv => whnf)
                | fail)
              refine vloop_eq2 (fr' := [(2, S []), (3, fnP), (4, .osl 0 g 0 ol.length), (7, strV 1 none), (18, .d (.sl 1 (w.map lnRow))), (19, I (w.map lnRow).length), (20, I (i : Int)), (24, .d (.sl 2 (l.map bxRow))), (25, I (l.map bxRow).length), (26, I ((0 : Nat) : Int))]) (h' := strH (some (g, ol)) ++ strH none) rfl rfl ?_
              refine vloop_by (σ := { x : Nat × Option (Nat × List (List UInt8)) // x.1 ≤ l.length ∧ strs x.2 = (l.take x.1).map boxText }) (fun x => [(2, S []), (3, fnP), (4, .osl 0 g 0 ol.length), (7, strV 1 x.1.2), (18, .d (.sl 1 (w.map lnRow))), (19, I (w.map lnRow).length), (20, I (i : Int)), (24, .d (.sl 2 (l.map bxRow))), (25, I (l.map bxRow).length), (26, I (x.1.1 : Int))]) (fun x => strH (some (g, ol)) ++ strH x.1.2) (fun x => l.length - x.1.1) ?_ ⟨(0, none), Nat.zero_le _, rfl⟩
              rintro ⟨⟨k, b⟩, hk, hb⟩
              simp only at hk hb
              rcases b with _ | ⟨g2, bl⟩
              · conv => whnf
                refine vb_i (fun h' => ?_) (fun h' => ?_) <;> conv => whnf
                · have hlk : k < l.length := by (first | omega | (simp only [ilt_t, ilt_f, ile_t, ile_f, ieq_t, ieq_f, ofn, List.length_map, Bool.not_eq_true', Bool.not_eq_false'] at *; omega))
                  obtain ⟨⟨x, y⟩, hxy⟩ : ∃ b, l[k]? = some b := ⟨l[k], List.getElem?_eq_getElem hlk⟩
                  have hr2 : iget (l.map bxRow) (k : Int) = some (bxRow (x, y)) := iget_t (by rw [List.getElem?_map, hxy]; rfl)
                  have t1 := pxText_len x
                  have t2 := pxText_len y
                  repeat' (first
                    | (refine vb_t rfl ?_; conv => whnf)
                    | (refine vb_f rfl ?_; conv => whnf)
                    | (refine vb_t (by assumption) ?_; conv => whnf)
                    | (refine vb_f (by assumption) ?_; conv => whnf)
                    | (refine vo_i hr2 ?_; conv => whnf)
                    | (refine vpur_i (px_ok _) ?_; conv => whnf)
                    | (refine vb_t (roomS_t (by simp; omega)) ?_; conv => whnf)
                    | (refine vb_t (room_t (by simp <;> omega)) ?_; conv => whnf)
                    | fail)
                  refine ⟨⟨(k + 1, some (0, [boxText (x, y)])), hlk, ?_⟩, by simp only; omega, cons_eq rfl (cons_eq rfl (cons_eq rfl (cons_eq rfl (cons_eq rfl (cons_eq rfl (cons_eq rfl (cons_eq rfl (cons_eq rfl (cons_eq (slot_eq (I_eq (iadd_one (i := k) (by omega)))) rfl))))))))), rfl, rfl, rfl⟩
                  simp only [take_get hxy, List.map_append, ← hb]; rfl
                · have hk2 : k = l.length := by (first | omega | (simp only [ilt_t, ilt_f, ile_t, ile_f, ieq_t, ieq_f, ofn, List.length_map, Bool.not_eq_true', Bool.not_eq_false'] at *; omega))
                  have h9 : l = [] := by
                    have := congrArg List.length hb
                    simp [strs] at this
                    exact List.length_eq_zero_iff.1 (by omega)
                  exact ((hne _ (List.mem_of_getElem? hx)).2 h9).elim
              · conv => whnf
                refine vb_i (fun h' => ?_) (fun h' => ?_) <;> conv => whnf
                · have hlk : k < l.length := by (first | omega | (simp only [ilt_t, ilt_f, ile_t, ile_f, ieq_t, ieq_f, ofn, List.length_map, Bool.not_eq_true', Bool.not_eq_false'] at *; omega))
                  obtain ⟨⟨x, y⟩, hxy⟩ : ∃ b, l[k]? = some b := ⟨l[k], List.getElem?_eq_getElem hlk⟩
                  have hr2 : iget (l.map bxRow) (k : Int) = some (bxRow (x, y)) := iget_t (by rw [List.getElem?_map, hxy]; rfl)
                  have t1 := pxText_len x
                  have t2 := pxText_len y
                  have hbl : bl.length ≤ 256 := by
                    have := congrArg List.length hb
                    simp [strs] at this; omega
                  have hgg : Nat.beq g2 g2 = true := by simp
                  have hq : ieq (bl.length : Int) ((bl.map strRow).length : Int) = true := by rw [ieq_t]; simp
                  repeat' (first
                    | (refine vb_t rfl ?_; conv => whnf)
                    | (refine vb_f rfl ?_; conv => whnf)
                    | (refine vb_t (by assumption) ?_; conv => whnf)
                    | (refine vb_f (by assumption) ?_; conv => whnf)
                    | (refine vo_i hr2 ?_; conv => whnf)
                    | (refine vpur_i (px_ok _) ?_; conv => whnf)
                    | (refine vb_t (roomS_t (by simp; omega)) ?_; conv => whnf)
                    | (refine vb_t (room_t (by simp <;> omega)) ?_; conv => whnf)
                    | fail)
                  refine ⟨⟨(k + 1, some (g2 + 1, bl ++ [boxText (x, y)])), hlk, ?_⟩, by simp only; omega, cons_eq rfl (cons_eq rfl (cons_eq rfl (cons_eq (slot_eq (osl_eq rfl (by simp))) (cons_eq rfl (cons_eq rfl (cons_eq rfl (cons_eq rfl (cons_eq rfl (cons_eq (slot_eq (I_eq (iadd_one (i := k) (by omega)))) rfl))))))))), cons_eq rfl (cons_eq (arr_eq (by rw [List.map_append]; rfl)) rfl), rfl, rfl⟩
                  simp only [take_get hxy, List.map_append, ← hb]; rfl
                · have hk2 : k = l.length := by (first | omega | (simp only [ilt_t, ilt_f, ile_t, ile_f, ieq_t, ieq_f, ofn, List.length_map, Bool.not_eq_true', Bool.not_eq_false'] at *; omega))
                  have hbt : bl = l.map boxText := by rw [hk2, List.take_length] at hb; exact hb
                  have hcut : (((bl.map strRow).take bl.length).drop 0) = bl.map fun s => [DV.str s] := by rw [List.drop_zero, List.take_of_length_le (by simp)]; rfl
                  have hjl : (Lib.join bl [44, 32]).length ≤ 140737488355328 := by
                    have := join_le [44, 32] 405 bl (fun x hx => by rw [hbt] at hx; obtain ⟨b, _, rfl⟩ := List.mem_map.1 hx; exact boxText_len b)
                    have h8 : bl.length ≤ 256 := by rw [hbt, List.length_map]; exact hl256
                    simp only [List.length_cons, List.length_nil] at this; omega
                  have j := join_ok bl [44, 32] (by rw [hbt, List.length_map]; omega) hjl
                  have hgg : Nat.beq g2 g2 = true := by simp
                  have hem : (bl.map strRow).isEmpty = false := by
                    have h8 := (hne _ (List.mem_of_getElem? hx)).2
                    rw [hbt]
                    cases l with
                    | nil => exact (h8 rfl).elim
                    | cons => rfl
                  repeat' (first
                    | (refine vb_t rfl ?_; conv => whnf)
                    | (refine vb_f rfl ?_; conv => whnf)
                    | (refine vb_t (by assumption) ?_; conv => whnf)
                    | (refine vb_f (by assumption) ?_; conv => whnf)
                    | (rw [hcut]; conv => whnf)
                    | (refine vpur_i (j _) ?_; conv => whnf)
                    | (refine vb_t (room_t (by simp <;> omega)) ?_; conv => whnf)
                    | fail)
                  refine ⟨⟨(i + 1, some (g + 1, ol ++ [Lib.join bl [44, 32]])), hlt, ?_⟩, by simp only; omega, cons_eq rfl (cons_eq rfl (cons_eq (slot_eq (osl_eq rfl (by simp))) (cons_eq rfl (cons_eq rfl (cons_eq (slot_eq (I_eq (iadd_one (i := i) (by omega)))) rfl))))), cons_eq (arr_eq (by rw [List.map_append]; rfl)) rfl, rfl, rfl⟩
                  simp only [take_get hx, List.map_append, ← ho]; rw [hbt]; rfl
          · have hi2 : i = w.length := by (first | omega | (simp only [ilt_t, ilt_f, ile_t, ile_f, ieq_t, ieq_f, ofn, List.length_map, Bool.not_eq_true', Bool.not_eq_false'] at *; omega))
            have hlt2 : ol = w.map fun y => lineText y.2 := by rw [hi2, List.take_length] at ho; exact ho
            have hcut : (((ol.map strRow).take ol.length).drop 0) = ol.map fun s => [DV.str s] := by rw [List.drop_zero, List.take_of_length_le (by simp)]; rfl
            have hem : (ol.map strRow).isEmpty = false := by
              rw [hlt2]
              cases w with
              | nil => exact (hz rfl).elim
              | cons => rfl
            have hjl : (Lib.join ol [32, 47, 32]).length ≤ 140737488355328 := by
              have := join_le [32, 47, 32] 110000 ol (fun x hx => by
                rw [hlt2] at hx
                obtain ⟨b, hb, rfl⟩ := List.mem_map.1 hx
                have h7 := join_le [44, 32] 405 (b.2.map boxText) (fun x hx => by obtain ⟨b, _, rfl⟩ := List.mem_map.1 hx; exact boxText_len b)
                have h6 := (hne b hb).1
                simp only [List.length_cons, List.length_nil, List.length_map] at h7
                unfold lineText; omega)
              simp only [List.length_cons, List.length_nil] at this; omega
            have j := join_ok ol [32, 47, 32] (by omega) hjl
            repeat' (first
              | (refine vb_t rfl ?_; conv => whnf)
              | (refine vb_f rfl ?_; conv => whnf)
              | (refine vb_t (by assumption) ?_; conv => whnf)
              | (refine vb_f (by assumption) ?_; conv => whnf)
              | (rw [hcut]; conv => whnf)
              | (refine vpur_i (j _) ?_; conv => whnf)
              | fail)
            refine ⟨congrArg CR.ret (S_eq ?_), by trivial⟩
            unfold wordsText; rw [if_neg hz, if_pos hg, hlt2]
      · have q1 : (!goodFrom 0 w) = true := by simpa using hg
        repeat' (first
          | (refine vb_t rfl ?_; conv => whnf)
          | (refine vb_f rfl ?_; conv => whnf)
          | (refine vb_t (by assumption) ?_; conv => whnf)
          | (refine vb_f (by assumption) ?_; conv => whnf)
          | (refine vpur_i hgd ?_; conv => whnf)
          | fail)
        refine ⟨congrArg CR.ret (S_eq ?_), by trivial⟩
        unfold wordsText; rw [if_neg hz, if_neg hg]
theorem good_sides : ∀ (w : List Ln) (n : Nat), goodFrom n w = true → ∀ x ∈ w, boxesOk x.2 = true
  | [], _, _ => fun x hx => by cases hx
  | y :: r, n, h => by
    simp only [goodFrom, Bool.and_eq_true] at h
    obtain ⟨⟨⟨h1, h2⟩, h3⟩, h4⟩ := h
    intro x hx
    rcases List.mem_cons.1 hx with rfl | hx
    · exact h3
    · exact good_sides r _ h4 x hx
theorem boxes_all : ∀ l : List Bx, boxesOk l = true → ∀ b ∈ l, sideOk b.1 = true ∧ sideOk b.2 = true
  | [], _ => fun b hb => by cases hb
  | y :: r, h => by
    simp only [boxesOk, Bool.and_eq_true] at h
    intro b hb
    rcases List.mem_cons.1 hb with rfl | hb
    · exact h.1
    · exact boxes_all r h.2 b hb
theorem valText_px {n : Int} (h : sideOk n = true) : valText (Int.ofNat 2) n = pxText n := by
  simp only [sideOk, Bool.and_eq_true, decide_eq_true_eq] at h
  have e : goodL 2 n 63 = true := by
    unfold goodL within
    rw [if_pos rfl, if_neg (by omega)]
    exact ile_t.mpr h.2
  show valText 2 n = pxText n
  unfold valText pxText
  rw [if_pos e, if_pos rfl]
end Go.Proofs.YtapnjabhcdlhbaaGreatDoor.Ab

