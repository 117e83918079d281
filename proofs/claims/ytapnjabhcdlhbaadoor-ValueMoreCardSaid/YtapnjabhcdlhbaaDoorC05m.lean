/- Layer 5 (value): with more allowed. -/
import Derived.Test.YtapnjabhcdlhbaaDoorC05c
namespace Go.Proofs.YtapnjabhcdlhbaaDoor.Ab
open Go
set_option linter.unusedSimpArgs false
set_option linter.unusedVariables false

/-- What the law says of two readings. -/
def MoreP (at_ : Int) (r r' : Int × Int × Int × Int) : Prop := (r.2.2.2 = 0 → r' = r) ∧ (r.2.2.2 = 51 → r'.2.2.2 = 51) ∧ (r.2.2.2 ≠ 0 → r.1 = 0 ∧ r.2.1 = 0 ∧ r.2.2.1 = at_)
theorem wrap64 (x : Int) : IntKind.wrap .i64 x = if x % 18446744073709551616 ≥ 9223372036854775808 then x % 18446744073709551616 - 18446744073709551616 else x % 18446744073709551616 := by
  show (if (true && decide (x % 18446744073709551616 ≥ 9223372036854775808)) = true then x % 18446744073709551616 - 18446744073709551616 else x % 18446744073709551616) = _
  by_cases h : x % 18446744073709551616 ≥ 9223372036854775808 <;> simp [h]
theorem ofInt_wrap (x : Int) : BitVec.ofInt 64 (IntKind.wrap .i64 x) = BitVec.ofInt 64 x := by
  apply BitVec.eq_of_toNat_eq
  rw [BitVec.toNat_ofInt, BitVec.toNat_ofInt, wrap64]
  split <;> omega
theorem ofInt_toNat (A : BitVec 64) : BitVec.ofInt 64 (A.toNat : Int) = A := by
  apply BitVec.eq_of_toNat_eq
  rw [BitVec.toNat_ofInt]
  have := A.isLt
  omega
theorem and_or_zero (A M C : BitVec 64) (h : (A ||| M) &&& C = 0#64) : A &&& C = 0#64 := by
  have e : A &&& C = A &&& ((A ||| M) &&& C) := by
    ext i
    simp only [BitVec.getElem_and, BitVec.getElem_or]
    cases A[i] <;> cases M[i] <;> cases C[i] <;> rfl
  rw [e, h]; simp
theorem iand_pos (a : Int) (b : Nat) (hb : b < 64) : 0 < iand .i64 a b ↔ BitVec.ofInt 64 a &&& BitVec.ofInt 64 (b : Int) ≠ 0#64 := by
  have hB : (BitVec.ofInt 64 (b : Int)).toNat = b := by rw [BitVec.toNat_ofInt]; omega
  have hlt : (BitVec.ofInt 64 a &&& BitVec.ofInt 64 (b : Int)).toNat ≤ b := by
    rw [BitVec.toNat_and, hB]; exact Nat.and_le_right
  have hw : iand .i64 a b = ((BitVec.ofInt 64 a &&& BitVec.ofInt 64 (b : Int)).toNat : Int) := by
    unfold iand
    show IntKind.wrap .i64 ((BitVec.ofInt 64 a &&& BitVec.ofInt 64 (b : Int)).toNat : Int) = _
    generalize (BitVec.ofInt 64 a &&& BitVec.ofInt 64 (b : Int)).toNat = z at hlt
    exact IntWalk.i64_in _ ⟨by omega, by omega⟩
  rw [hw]
  constructor
  · intro h e
    rw [e] at h
    simp at h
  · intro h
    have : (BitVec.ofInt 64 a &&& BitVec.ofInt 64 (b : Int)).toNat ≠ 0 := fun e => h (BitVec.eq_of_toNat_eq (by rw [e]; rfl))
    omega
theorem bit_more (a m : Int) (b : Nat) (hb : b < 64) (h : hasBit a b = true) : hasBit (ior .i64 a m) b = true := by
  unfold hasBit at *
  rw [ilt_t] at *
  rw [iand_pos _ _ hb] at *
  intro e
  apply h
  unfold ior at e
  simp only [IntKind.bits] at e
  rw [ofInt_wrap, ofInt_toNat] at e
  exact and_or_zero _ _ _ e
theorem good_more (k n a m : Int) (h : goodL k n a = true) : goodL k n (ior .i64 a m) = true := by
  have b1 := bit_more a m 1 (by omega)
  have b2 := bit_more a m 2 (by omega)
  have b4 := bit_more a m 4 (by omega)
  have b8 := bit_more a m 8 (by omega)
  have b16 := bit_more a m 16 (by omega)
  have b32 := bit_more a m 32 (by omega)
  have b0 := bit_more a m 0 (by omega)
  simp only [Int.cast_ofNat_Int, Int.natCast_zero] at b1 b2 b4 b8 b16 b32 b0
  have w : ∀ most, within n a most = true → within n (ior .i64 a m) most = true := by
    intro most h
    unfold within at *
    split at h
    · rename_i hn
      rw [if_pos hn]
      split at h
      · rename_i h2
        rw [if_pos (b2 h2)]; exact h
      · cases h
    · rename_i hn
      rw [if_neg hn]; exact h
  have kb : hasBit a (keyBit k) = true → hasBit (ior .i64 a m) (keyBit k) = true := by
    unfold keyBit
    repeat' split
    all_goals assumption
  unfold goodL at *
  by_cases k2 : k = 2
  · rw [if_pos k2] at *; exact w _ h
  rw [if_neg k2] at *
  by_cases k3 : k = 3
  · rw [if_pos k3] at *
    rw [Bool.and_eq_true] at *
    exact ⟨b1 h.1, w _ h.2⟩
  rw [if_neg k3] at *
  by_cases k6 : k = 6
  · rw [if_pos k6] at *
    rw [Bool.and_eq_true, Bool.and_eq_true] at *
    exact ⟨⟨b16 h.1.1, h.1.2⟩, h.2⟩
  rw [if_neg k6] at *
  rw [Bool.and_eq_true] at *
  exact ⟨h.1, kb h.2⟩
theorem moreP (f : Bool) (k sc n e at_ allow more : Int) (he : e ≠ 51) : MoreP at_ (readR f k sc n e at_ allow) (readR f k sc n e at_ (ior .i64 allow more)) := by
  have g0 := good_more k 0 allow more
  have g1 := good_more k (if 0 < sc then n else 0) allow more
  unfold MoreP readR
  by_cases hf : f = true
  · rw [if_pos hf, if_pos hf]; simp
  rw [if_neg hf, if_neg hf]
  by_cases h1 : k = 0 ∨ goodL k 0 allow = false
  · rw [if_pos h1]; simp
  rw [if_neg h1]
  have h1' : ¬ (k = 0 ∨ goodL k 0 (ior .i64 allow more) = false) := by
    intro h
    rcases h with h | h
    · exact h1 (.inl h)
    · cases hg : goodL k 0 allow with
      | false => exact h1 (.inr hg)
      | true => rw [g0 hg] at h; cases h
  rw [if_neg h1']
  by_cases h2 : 0 < sc ∧ e ≠ 0
  · rw [if_pos h2, if_pos h2]
    exact ⟨fun h => absurd h h2.2, fun h => absurd h he, fun _ => ⟨rfl, rfl, rfl⟩⟩
  rw [if_neg h2, if_neg h2]
  by_cases h3 : goodL k (if 0 < sc then n else 0) allow = true
  · rw [if_pos h3, if_pos (g1 h3)]
    simp
  rw [if_neg h3]
  by_cases h4 : (if 0 < sc then n else 0) < 0 ∧ (iand .i64 allow 2 = 0 ∨ k = 6)
  · rw [if_pos h4]; simp
  · rw [if_neg h4]; simp
end Go.Proofs.YtapnjabhcdlhbaaDoor.Ab
