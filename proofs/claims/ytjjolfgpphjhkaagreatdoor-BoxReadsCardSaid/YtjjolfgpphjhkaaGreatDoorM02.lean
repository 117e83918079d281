/- Some texts as one, one behind the other. -/
import Derived.Test.YtjjolfgpphjhkaaGreatDoorAbSome
import Derived.Test.YtjjolfgpphjhkaaGreatDoorC05g
import Derived.Test.YtjjolfgpphjhkaaGreatDoorC02a
import Derived.Test.YtjjolfgpphjhkaaGreatDoorC00m
/- Layer 2 (number): digits as numbers; a number scaled and rounded: the plain law of it. -/
namespace Go.Proofs.YtjjolfgpphjhkaaGreatDoor.Ab
open Go
set_option linter.unusedSimpArgs false
set_option maxRecDepth 100000
set_option linter.unusedVariables false
set_option maxHeartbeats 4000000

/-- Digits (0 to 9 each), the first one first, as a number. -/
def valD : List UInt8 → Nat
  | [] => 0
  | c :: l => c.toNat * 10 ^ l.length + valD l
def digsOk (l : List UInt8) : Prop := ∀ c ∈ l, c.toNat ≤ 9
theorem valD_append : ∀ a b : List UInt8, valD (a ++ b) = valD a * 10 ^ b.length + valD b
  | [], b => by simp [valD]
  | c :: a, b => by
    have h := valD_append a b
    simp only [List.cons_append, valD, h, List.length_append, Nat.pow_add, Nat.add_mul]
    rw [Nat.mul_assoc]; omega
theorem valD_lt : ∀ l : List UInt8, digsOk l → valD l < 10 ^ l.length
  | [], _ => by simp [valD]
  | c :: l, h => by
    have h1 := valD_lt l fun x hx => h x (List.mem_cons_of_mem _ hx)
    have h2 := h c (List.mem_cons_self ..)
    simp only [valD, List.length_cons, Nat.pow_succ]
    have h3 : c.toNat * 10 ^ l.length ≤ 9 * 10 ^ l.length := Nat.mul_le_mul_right _ h2
    omega
theorem valD_zeros : ∀ n : Nat, valD (List.replicate n 0) = 0
  | 0 => rfl
  | n + 1 => by rw [List.replicate_succ, valD, valD_zeros n]; simp
theorem digsOk_append {a b : List UInt8} (h : digsOk a) (k : digsOk b) : digsOk (a ++ b) := fun c hc => by
  rcases List.mem_append.1 hc with hc | hc
  · exact h c hc
  · exact k c hc
theorem valD_split (l : List UInt8) (i : Nat) : valD l = valD (l.take i) * 10 ^ (l.length - i) + valD (l.drop i) := by
  have h := valD_append (l.take i) (l.drop i)
  rw [List.take_append_drop, List.length_drop] at h
  exact h
/-- A number times ten to the power of minus behind, rounded half up. -/
def rndN (X : Nat) (behind : Int) : Nat :=
  if behind ≤ 0 then X * 10 ^ (-behind).toNat
  else X / 10 ^ behind.toNat + (if 5 ≤ X / 10 ^ (behind.toNat - 1) % 10 then 1 else 0)
theorem rndN_pos {X r : Nat} (h : 0 < r) : rndN X r = X / 10 ^ r + (if 5 ≤ X / 10 ^ (r - 1) % 10 then 1 else 0) := by
  unfold rndN; rw [if_neg (by omega), Int.toNat_natCast]
theorem rndN_neg {X : Nat} {b : Int} (h : b ≤ 0) : rndN X b = X * 10 ^ (-b).toNat := by unfold rndN; rw [if_pos h]
/-- Whole times the power, and what is left below it. -/
theorem rndN_parts {W m r c d0 : Nat} (hr : 0 < r) (hm : m < 10 ^ r) (hd : m / 10 ^ (r - 1) = d0) (hd9 : d0 ≤ 9) : rndN ((W + c) * 10 ^ r + m) r = W + c + (if 5 ≤ d0 then 1 else 0) := by
  have hp : 0 < 10 ^ r := Nat.pow_pos (by decide)
  have hp1 : 0 < 10 ^ (r - 1) := Nat.pow_pos (by decide)
  have he : 10 ^ r = 10 ^ (r - 1) * 10 := by rw [← Nat.pow_succ]; congr 1; omega
  rw [rndN_pos hr]
  have h1 : ((W + c) * 10 ^ r + m) / 10 ^ r = W + c := by
    rw [Nat.mul_comm, Nat.mul_add_div hp, Nat.div_eq_of_lt hm, Nat.add_zero]
  have h2 : ((W + c) * 10 ^ r + m) / 10 ^ (r - 1) = (W + c) * 10 + d0 := by
    rw [he, ← Nat.mul_assoc, Nat.mul_comm (W + c), Nat.mul_assoc, Nat.mul_add_div hp1, hd]
  rw [h1, h2]
  have h3 : ((W + c) * 10 + d0) % 10 = d0 := by omega
  rw [h3]
theorem rndN_small {X : Nat} {b : Int} (r : Nat) (hb : b = (r : Int)) (hr : 0 < r) (h : X < 10 ^ (r - 1)) : rndN X b = 0 := by
  subst hb
  rw [rndN_pos hr, Nat.div_eq_of_lt h, Nat.div_eq_of_lt (Nat.lt_of_lt_of_le h (Nat.pow_le_pow_right (by decide) (by omega)))]
  rfl
theorem rndN_big {X : Nat} {b : Int} (n k : Nat) (h : 10 ^ k ≤ X) (hb : b + n ≤ (k : Int)) : 10 ^ n ≤ rndN X b := by
  unfold rndN
  split
  · rename_i h0
    have h1 : 10 ^ n ≤ 10 ^ (k + (-b).toNat) := Nat.pow_le_pow_right (by decide) (by omega)
    rw [Nat.pow_add] at h1
    exact Nat.le_trans h1 (Nat.mul_le_mul_right _ h)
  · rename_i h0
    obtain ⟨r, rfl⟩ : ∃ r : Nat, b = r := ⟨b.toNat, by omega⟩
    rw [Int.toNat_natCast]
    have h1 : 10 ^ n ≤ X / 10 ^ r := by
      rw [Nat.le_div_iff_mul_le (Nat.pow_pos (by decide)), ← Nat.pow_add]
      exact Nat.le_trans (Nat.pow_le_pow_right (by decide) (by omega)) h
    omega
theorem valD_first {c : UInt8} {l : List UInt8} (h : c.toNat ≠ 0) : 10 ^ l.length ≤ valD (c :: l) := by
  have : 1 * 10 ^ l.length ≤ c.toNat * 10 ^ l.length := Nat.mul_le_mul_right _ (by omega)
  simp only [valD]; omega
theorem valD_head {l : List UInt8} {c : UInt8} (h : l[0]? = some c) (hd : digsOk l) : valD l / 10 ^ (l.length - 1) = c.toNat := by
  cases l with
  | nil => simp at h
  | cons d l =>
    simp at h; subst h
    have h1 := valD_lt l fun x hx => hd x (List.mem_cons_of_mem _ hx)
    simp only [valD, List.length_cons, Nat.add_sub_cancel]
    rw [Nat.mul_comm, Nat.mul_add_div (Nat.pow_pos (by decide)), Nat.div_eq_of_lt h1, Nat.add_zero]
theorem headD_div {m : List UInt8} (hm : digsOk m) (h : 0 < m.length) : valD m / 10 ^ (m.length - 1) = (m.headD 0).toNat ∧ (m.headD 0).toNat ≤ 9 := by
  cases m with
  | nil => simp at h
  | cons c l => exact ⟨valD_head (c := c) rfl hm, hm c (List.mem_cons_self ..)⟩
/-- What is left, behind the point: r digits m, and so many whole ones more. -/
theorem rnd_rest {V W r sc ca F : Nat} {m : List UInt8} (hm : digsOk m) (hr : m.length = r) (hV : V = W * 10 ^ r + F) (hF : valD m + ca * 10 ^ r = F * sc) :
    rndN (V * sc) (r : Int) = W * sc + ca + (if 5 ≤ (m.headD 0).toNat then 1 else 0) := by
  have hX : V * sc = (W * sc + ca) * 10 ^ r + valD m := by
    rw [hV, Nat.add_mul, ← hF, Nat.add_mul]
    have : W * 10 ^ r * sc = W * sc * 10 ^ r := by rw [Nat.mul_assoc, Nat.mul_comm (10 ^ r), ← Nat.mul_assoc]
    omega
  have hlt := valD_lt m hm
  rw [hr] at hlt
  rcases Nat.eq_zero_or_pos r with h0 | h0
  · subst h0
    have hm0 : m = [] := List.length_eq_zero_iff.1 hr
    subst hm0
    rw [rndN_neg (by omega), hX]
    simp [valD]
  · obtain ⟨h1, h2⟩ := headD_div hm (by omega)
    rw [hr] at h1
    rw [hX]
    exact rndN_parts h0 hlt h1 h2
theorem rnd_fin {e : List UInt8} {n : Int} {sc i Z : Nat} (hi : n.toNat = i) (hZ : (-n).toNat = Z) {m : List UInt8} {ca : Nat} (hm : digsOk m) (hml : m.length = (List.replicate Z 0 ++ e.drop (min e.length i)).length)
    (hv : valD m + ca * 10 ^ m.length = valD (List.replicate Z 0 ++ e.drop (min e.length i)) * sc) :
    rndN (valD e * sc) ((e.length : Int) - n) = (valD (e.take i) * 10 ^ (i - e.length)) * sc + ca + (if 5 ≤ (m.headD 0).toNat then 1 else 0) := by
  have hF : valD (List.replicate Z 0 ++ e.drop (min e.length i)) = valD (e.drop (min e.length i)) := by rw [valD_append, valD_zeros, Nat.zero_mul, Nat.zero_add]
  rw [hF] at hv
  simp only [List.length_append, List.length_replicate, List.length_drop] at hml
  by_cases hbig : e.length < i
  · have h0 : m.length = 0 := by omega
    have hm0 : m = [] := List.length_eq_zero_iff.1 h0
    subst hm0
    rw [Nat.min_eq_left (by omega), List.drop_length] at hv
    simp only [valD, List.length_nil, Nat.pow_zero, Nat.mul_one, Nat.zero_mul, Nat.zero_add] at hv
    subst hv
    rw [rndN_neg (by omega), List.take_of_length_le (by omega)]
    have h1 : (-((e.length : Int) - n)).toNat = i - e.length := by omega
    rw [h1]
    have : valD e * sc * 10 ^ (i - e.length) = valD e * 10 ^ (i - e.length) * sc := by rw [Nat.mul_assoc, Nat.mul_comm sc, ← Nat.mul_assoc]
    simp [this]
  · have hle : i ≤ e.length := by omega
    rw [Nat.min_eq_right hle] at hv hml
    have hr : (e.length : Int) - n = ((m.length : Nat) : Int) := by omega
    rw [hr]
    have hp0 : i - e.length = 0 := by omega
    rw [hp0, Nat.pow_zero, Nat.mul_one]
    refine rnd_rest hm rfl ?_ hv
    rcases Nat.eq_zero_or_pos i with h0 | h0
    · subst h0
      simp [valD]
    · have : m.length = e.length - i := by omega
      rw [this]; exact valD_split e i
/-- One step of the multiplication, the last digit first. -/
theorem mul_step {c ca sc P vm vl : Nat} (h : vm + ca * P = vl * sc) : ((c * sc + ca) % 10) * P + vm + ((c * sc + ca) / 10) * (P * 10) = (c * P + vl) * sc := by
  have h1 : (c * sc + ca) % 10 * P + (c * sc + ca) / 10 * (P * 10) = (c * sc + ca) * P := by
    have h2 : (c * sc + ca) / 10 * (P * 10) = 10 * ((c * sc + ca) / 10) * P := by rw [Nat.mul_comm P 10, ← Nat.mul_assoc, Nat.mul_comm ((c * sc + ca) / 10) 10]
    rw [h2, ← Nat.add_mul]
    congr 1
    omega
  have h3 : (c * sc + ca) * P = c * P * sc + ca * P := by rw [Nat.add_mul, Nat.mul_assoc, Nat.mul_comm sc P, ← Nat.mul_assoc]
  rw [Nat.add_mul, ← h]
  omega
end Go.Proofs.YtjjolfgpphjhkaaGreatDoor.Ab
/- Layer 2 (number): digits, scaled: exactly. -/
namespace Go.Proofs.YtjjolfgpphjhkaaGreatDoor.Ab
open Go
set_option linter.unusedSimpArgs false
set_option maxRecDepth 100000
set_option linter.unusedVariables false
set_option maxHeartbeats 4000000

theorem tail_cut (c : UInt8) (t : List UInt8) : icut ((c :: t).map byteRow) (Int.ofNat 1) (((c :: t).map byteRow).length : Int) = some (t.map byteRow) := by
  rw [icut_t (by decide) (by simp only [ofn, List.length_map, List.length_cons]; omega) (Int.le_refl _)]
  rw [Int.toNat_natCast, List.take_length]
  rfl
theorem of_dig {x : Nat} (h : x < 256) : (UInt8.ofNat x).toNat = x := by rw [UInt8.toNat_ofNat']; omega
theorem dig_row {x : Nat} (h : x < 256) : byteRow (UInt8.ofNat x) = [DV.int .u8 (icast .u8 (x : Int))] := by
  show [DV.int .u8 ((UInt8.ofNat x).toNat : Int)] = _
  rw [of_dig h]
  have : icast .u8 (x : Int) = (x : Int) := by
    unfold icast
    simp only [IntKind.wrap, IntKind.signed, IntKind.bits, Bool.false_and, Bool.false_eq_true, if_false]
    omega
  rw [this]
theorem set_dig {m : List UInt8} {q x : Nat} (h : digsOk m) (hx : x ≤ 9) : digsOk (m.set q (UInt8.ofNat x)) := fun c hc => by
  rcases List.mem_or_eq_of_mem_set hc with h1 | h1
  · exact h c h1
  · rw [h1, of_dig (by omega)]; exact hx
theorem set_take {m : List UInt8} {q : Nat} {a : UInt8} : (m.set q a).take q = m.take q := by
  apply List.ext_getElem?
  intro i
  rw [List.getElem?_take, List.getElem?_take]
  split
  · rw [List.getElem?_set_ne (by omega)]
  · rfl
theorem drop_get1 {l : List UInt8} {i : Nat} {x : UInt8} (h : l[i]? = some x) : l.drop i = x :: l.drop (i + 1) := by
  obtain ⟨h1, h2⟩ := List.getElem?_eq_some_iff.1 h
  rw [List.drop_eq_getElem_cons h1, h2]
theorem set_drop {m : List UInt8} {q : Nat} {a : UInt8} (h : q < m.length) : (m.set q a).drop q = a :: m.drop (q + 1) := by
  rw [drop_get1 (x := a) (by rw [List.getElem?_set_self h])]
  congr 1
  apply List.ext_getElem?
  intro i
  rw [List.getElem?_drop, List.getElem?_drop, List.getElem?_set_ne (by omega)]
def bys : Option (Nat × List UInt8) → List UInt8
  | none => []
  | some (_, l) => l
theorem scaledX_ok (d : List UInt8) (point : Int) (sc : Nat) (hsc : sc ≤ 1000) (hsc1 : 1 ≤ sc) (hd : d.length ≤ 1000000) (hdg : digsOk d) (hp1 : -1000000 ≤ point) (hp2 : point ≤ 2000000) :
    ∃ x : Int × Bool, Pur F0 83 [.d (.sl 1 (d.map byteRow)), I point, I (sc : Int)] [] .no (.ret (.tup [I x.1, B x.2])) .no ∧
      (x.2 = decide (rndN (valD d * sc) ((d.length : Int) - point) ≤ 68719476736) ∧ (x.2 = true → x.1 = (rndN (valD d * sc) ((d.length : Int) - point) : Nat))) := by
  obtain ⟨N, hN⟩ : ∃ N, rndN (valD d * sc) ((d.length : Int) - point) = N := ⟨_, rfl⟩
  rw [hN]
  refine pur_ret (σ := Int × Bool) (g := fun x => .tup [I x.1, B x.2]) (Q := fun x => x.2 = decide (N ≤ 68719476736) ∧ (x.2 = true → x.1 = (N : Nat))) code83_ok ?_
  conv => whnf
  refine vloop_by (σ := { x : List UInt8 × Int // x.1.length ≤ d.length ∧ digsOk x.1 ∧ valD x.1 = valD d ∧ (x.1.length : Int) - x.2 = d.length - point }) (fun x => [(0, .d (.sl 1 (x.1.1.map byteRow))), (1, I x.1.2), (2, I (sc : Int)), (6, I 0), (7, B false)]) (fun _ => []) (fun x => x.1.1.length) ?_ ⟨(d, point), Nat.le_refl _, hdg, rfl, rfl⟩
  rintro ⟨⟨e, n⟩, he, heg, hv, hb⟩
  simp only at he heg hv hb
  conv => whnf
  cases e with
  | nil =>
    have q0 : ilt (Int.ofNat 0) ((([] : List UInt8).map byteRow).length : Int) = false := by rw [ilt_f]; decide
    have q1 : ieq ((([] : List UInt8).map byteRow).length : Int) (Int.ofNat 0) = true := by rw [ieq_t]; decide
    repeat' (first
      | (refine vb_t rfl ?_; conv => whnf)
      | (refine vb_f rfl ?_; conv => whnf)
      | (refine vb_t (by assumption) ?_; conv => whnf)
      | (refine vb_f (by assumption) ?_; conv => whnf)
      | fail)
    refine ⟨(_, _), rfl, rfl, ?_⟩
    have h0 : N = 0 := by
      rw [← hN, ← hv]
      show rndN (valD [] * sc) _ = 0
      simp only [valD, Nat.zero_mul]
      unfold rndN; split
      · simp
      · simp
    subst h0
    exact ⟨by decide, fun _ => rfl⟩
  | cons c t =>
    have q0 : ilt (Int.ofNat 0) (((c :: t).map byteRow).length : Int) = true := by rw [ilt_t, List.length_map, ofn, List.length_cons]; omega
    have hc : iget ((c :: t).map byteRow) (Int.ofNat 0) = some (byteRow c) := iget_t (n := 0) rfl
    have hcut := tail_cut c t
    by_cases hz : c.toNat = 0
    · have q1 : ieq (c.toNat : Int) (Int.ofNat 0) = true := by rw [ieq_t, hz]; rfl
      repeat' (first
        | (refine vb_t rfl ?_; conv => whnf)
        | (refine vb_f rfl ?_; conv => whnf)
        | (refine vb_t (by assumption) ?_; conv => whnf)
        | (refine vb_f (by assumption) ?_; conv => whnf)
        | (refine vo_i hc ?_; conv => whnf)
        | (refine vo_i hcut ?_; conv => whnf)
        | fail)
      simp only [List.length_cons] at he hb
      refine ⟨⟨(t, n - 1), by show t.length ≤ d.length; omega, fun x hx => heg x (List.mem_cons_of_mem _ hx), by rw [← hv]; simp only [valD, hz]; omega, by show (t.length : Int) - (n - 1) = _; omega⟩, by show t.length < t.length + 1; omega, cons_eq rfl (cons_eq (slot_eq (I_eq ?_)) rfl), rfl, rfl, rfl⟩
      show isub .i64 n (Int.ofNat 1) = n - 1
      rw [ofn, isub64 (by omega) (by omega)]; rfl
    · have q1 : ieq (c.toNat : Int) (Int.ofNat 0) = false := by rw [ieq_f, ofn]; omega
      have q2 : ieq (((c :: t).map byteRow).length : Int) (Int.ofNat 0) = false := by rw [ieq_f, List.length_map, ofn, List.length_cons]; omega
      have hlo := valD_first (c := c) (l := t) hz
      have hhi := valD_lt _ heg
      have hm1 : valD (c :: t) * 1 ≤ valD (c :: t) * sc := Nat.mul_le_mul_left _ hsc1
      have hm2 : valD (c :: t) * sc ≤ valD (c :: t) * 1000 := Nat.mul_le_mul_left _ hsc
      have hN2 : rndN (valD (c :: t) * sc) (((c :: t).length : Int) - n) = N := by rw [hv, hb, hN]
      repeat' (first
        | (refine vb_t rfl ?_; conv => whnf)
        | (refine vb_f rfl ?_; conv => whnf)
        | (refine vb_t (by assumption) ?_; conv => whnf)
        | (refine vb_f (by assumption) ?_; conv => whnf)
        | (refine vo_i hc ?_; conv => whnf)
        | fail)
      refine vb_i (fun h => ?_) (fun h => ?_) <;> conv => whnf
      · repeat' (first
          | (refine vb_t rfl ?_; conv => whnf)
          | (refine vb_f rfl ?_; conv => whnf)
          | (refine vb_t (by assumption) ?_; conv => whnf)
          | (refine vb_f (by assumption) ?_; conv => whnf)
          | fail)
        refine ⟨(_, _), rfl, rfl, ?_⟩
        have hn : n < -5 := by (first | omega | (simp only [ilt_t, ilt_f, ile_t, ile_f, ieq_t, ieq_f, ofn, List.length_map, Bool.not_eq_true', Bool.not_eq_false'] at *; omega))
        have h0 : N = 0 := by
          rw [← hN2]
          obtain ⟨r, hr⟩ : ∃ r : Nat, ((c :: t).length : Int) - n = (r : Int) := ⟨(((c :: t).length : Int) - n).toNat, by omega⟩
          refine rndN_small r hr (by omega) ?_
          have h5 : 10 ^ ((c :: t).length + 3) ≤ 10 ^ (r - 1) := Nat.pow_le_pow_right (by decide) (by omega)
          rw [Nat.pow_add] at h5
          have h6 : (10 : Nat) ^ 3 = 1000 := by decide
          rw [h6] at h5
          omega
        subst h0
        exact ⟨by decide, fun _ => rfl⟩
      repeat' (first
        | (refine vb_t rfl ?_; conv => whnf)
        | (refine vb_f rfl ?_; conv => whnf)
        | (refine vb_t (by assumption) ?_; conv => whnf)
        | (refine vb_f (by assumption) ?_; conv => whnf)
        | fail)
      refine vb_i (fun h => ?_) (fun h => ?_) <;> conv => whnf
      · repeat' (first
          | (refine vb_t rfl ?_; conv => whnf)
          | (refine vb_f rfl ?_; conv => whnf)
          | (refine vb_t (by assumption) ?_; conv => whnf)
          | (refine vb_f (by assumption) ?_; conv => whnf)
          | fail)
        refine ⟨(_, _), rfl, rfl, ?_⟩
        have hn : 13 < n := by (first | omega | (simp only [ilt_t, ilt_f, ile_t, ile_f, ieq_t, ieq_f, ofn, List.length_map, Bool.not_eq_true', Bool.not_eq_false'] at *; omega))
        have h0 : 10 ^ 13 ≤ N := by
          rw [← hN2]
          refine rndN_big 13 t.length (by omega) ?_
          simp only [List.length_cons]; omega
        have h6 : (10 : Nat) ^ 13 = 10000000000000 := by decide
        rw [h6] at h0
        refine ⟨?_, fun h => by cases h⟩
        show false = decide (N ≤ 68719476736)
        rw [eq_comm, decide_eq_false_iff_not]; omega
      have hn1 : n ≤ 13 := by (first | omega | (simp only [ilt_t, ilt_f, ile_t, ile_f, ieq_t, ieq_f, ofn, List.length_map, Bool.not_eq_true', Bool.not_eq_false'] at *; omega))
      have hn2 : -5 ≤ n := by (first | omega | (simp only [ilt_t, ilt_f, ile_t, ile_f, ieq_t, ieq_f, ofn, List.length_map, Bool.not_eq_true', Bool.not_eq_false'] at *; omega))
      generalize c :: t = e at *
      clear hc hcut hlo hhi hm1 hm2 hz q0
      obtain ⟨P, hP⟩ : ∃ P : Nat, n.toNat = P := ⟨_, rfl⟩
      have eM : imax (Int.ofNat 0) n = (P : Int) := by rw [imax_d, ofn]; split <;> omega
      have hP13 : P ≤ 13 := by omega
      have hw : ∀ i, valD (e.take i) * 10 ^ (i - e.length) < 10 ^ i := fun i => by
        have h1 := valD_lt (e.take i) fun x hx => heg x (List.mem_of_mem_take hx)
        rw [List.length_take] at h1
        have h2 : valD (e.take i) * 10 ^ (i - e.length) < 10 ^ min i e.length * 10 ^ (i - e.length) := (Nat.mul_lt_mul_right (Nat.pow_pos (by decide))).2 h1
        rw [← Nat.pow_add] at h2
        have h3 : min i e.length + (i - e.length) = i := by omega
        rwa [h3] at h2
      have h13 : ∀ i, i ≤ 13 → 10 ^ i ≤ 10000000000000 := fun i hi => Nat.le_trans (Nat.pow_le_pow_right (by decide) hi) (by decide)
      refine vloop_eq2 (fr' := [(0, .d (.sl 1 (e.map byteRow))), (1, I n), (2, I (sc : Int)), (6, I 0), (7, B false), (8, I ((valD (e.take 0) * 10 ^ (0 - e.length) : Nat) : Int)), (40, I (P : Int)), (41, I ((0 : Nat) : Int))]) ?_ rfl ?_
      · exact cons_eq rfl (cons_eq rfl (cons_eq rfl (cons_eq rfl (cons_eq rfl (cons_eq (slot_eq (I_eq (by simp [valD]))) (cons_eq (slot_eq (I_eq eM)) rfl))))))
      refine vloop_by (σ := { i : Nat // i ≤ P }) (fun i => [(0, .d (.sl 1 (e.map byteRow))), (1, I n), (2, I (sc : Int)), (6, I 0), (7, B false), (8, I ((valD (e.take i.1) * 10 ^ (i.1 - e.length) : Nat) : Int)), (40, I (P : Int)), (41, I (i.1 : Int))]) (fun _ => []) (fun i => P - i.1) ?_ ⟨0, Nat.zero_le _⟩
      rintro ⟨i, hi⟩
      conv => whnf
      refine vb_i (fun h => ?_) (fun h => ?_) <;> conv => whnf
      · have hiP : i < P := by (first | omega | (simp only [ilt_t, ilt_f, ile_t, ile_f, ieq_t, ieq_f, ofn, List.length_map, Bool.not_eq_true', Bool.not_eq_false'] at *; omega))
        have hwi := hw i
        have h13i := h13 i (by omega)
        obtain ⟨W, hW⟩ : ∃ W, valD (e.take i) * 10 ^ (i - e.length) = W := ⟨_, rfl⟩
        rw [hW] at hwi
        have e1 : imul .i64 (W : Int) (Int.ofNat 10) = ((W * 10 : Nat) : Int) := by rw [ofn, imul64 (by omega) (by omega)]; omega
        refine vb_i (fun h => ?_) (fun h => ?_) <;> conv => whnf
        · have hie : i < e.length := by (first | omega | (simp only [ilt_t, ilt_f, ile_t, ile_f, ieq_t, ieq_f, ofn, List.length_map, Bool.not_eq_true', Bool.not_eq_false'] at *; omega))
          obtain ⟨c, hc⟩ : ∃ c, e[i]? = some c := ⟨e[i], List.getElem?_eq_getElem hie⟩
          have hr : iget (e.map byteRow) (i : Int) = some (byteRow c) := iget_t (by rw [List.getElem?_map, hc]; rfl)
          have hc9 := heg c (List.mem_of_getElem? hc)
          have e2 : iadd .i64 ((W * 10 : Nat) : Int) (c.toNat : Int) = ((W * 10 + c.toNat : Nat) : Int) := by rw [iadd64 (by omega) (by omega)]; omega
          have e3 : valD (e.take (i + 1)) * 10 ^ (i + 1 - e.length) = W * 10 + c.toNat := by
            rw [← hW, List.take_add_one, hc, valD_append, Nat.sub_eq_zero_of_le (by omega), Nat.sub_eq_zero_of_le (by omega)]
            simp [valD]
          repeat' (first
            | (refine vb_t rfl ?_; conv => whnf)
            | (refine vb_f rfl ?_; conv => whnf)
            | (refine vb_t (by assumption) ?_; conv => whnf)
            | (refine vb_f (by assumption) ?_; conv => whnf)
            | (refine vo_i hr ?_; conv => whnf)
            | fail)
          refine ⟨⟨i + 1, hiP⟩, by simp only; omega, cons_eq rfl (cons_eq rfl (cons_eq rfl (cons_eq rfl (cons_eq rfl (cons_eq (slot_eq (I_eq ?_)) (cons_eq rfl (cons_eq (slot_eq (I_eq (iadd_one (i := i) (by omega)))) rfl))))))), rfl, rfl, rfl⟩
          show iadd .i64 (imul .i64 ((valD (e.take i) * 10 ^ (i - e.length) : Nat) : Int) (Int.ofNat 10)) (icast .i64 (c.toNat : Int)) = ((valD (e.take (i + 1)) * 10 ^ (i + 1 - e.length) : Nat) : Int)
          rw [hW, e1, icast64 (by omega) (by omega), e2, e3]
        · have hie : e.length ≤ i := by (first | omega | (simp only [ilt_t, ilt_f, ile_t, ile_f, ieq_t, ieq_f, ofn, List.length_map, Bool.not_eq_true', Bool.not_eq_false'] at *; omega))
          have e3 : valD (e.take (i + 1)) * 10 ^ (i + 1 - e.length) = W * 10 := by
            rw [← hW, List.take_of_length_le (by omega), List.take_of_length_le (by omega), Nat.succ_sub hie, Nat.pow_succ, Nat.mul_assoc]
          repeat' (first
            | (refine vb_t rfl ?_; conv => whnf)
            | (refine vb_f rfl ?_; conv => whnf)
            | (refine vb_t (by assumption) ?_; conv => whnf)
            | (refine vb_f (by assumption) ?_; conv => whnf)
            | fail)
          refine ⟨⟨i + 1, hiP⟩, by simp only; omega, cons_eq rfl (cons_eq rfl (cons_eq rfl (cons_eq rfl (cons_eq rfl (cons_eq (slot_eq (I_eq ?_)) (cons_eq rfl (cons_eq (slot_eq (I_eq (iadd_one (i := i) (by omega)))) rfl))))))), rfl, rfl, rfl⟩
          show imul .i64 ((valD (e.take i) * 10 ^ (i - e.length) : Nat) : Int) (Int.ofNat 10) = ((valD (e.take (i + 1)) * 10 ^ (i + 1 - e.length) : Nat) : Int)
          rw [hW, e1, e3]
      · have hiP : i = P := by (first | omega | (simp only [ilt_t, ilt_f, ile_t, ile_f, ieq_t, ieq_f, ofn, List.length_map, Bool.not_eq_true', Bool.not_eq_false'] at *; omega))
        subst hiP
        obtain ⟨W, hW⟩ : ∃ W, valD (e.take i) * 10 ^ (i - e.length) = W := ⟨_, rfl⟩
        have hW13 : W < 10000000000000 := by have h1 := hw i; have h2 := h13 i hP13; rw [hW] at h1; omega
        obtain ⟨Z, hZ⟩ : ∃ Z : Nat, (-n).toNat = Z := ⟨_, rfl⟩
        have eZ : imax (Int.ofNat 0) (isub .i64 0 n) = (Z : Int) := by rw [imax_d, isub64 (by omega) (by omega), ofn]; split <;> omega
        have hZ5 : Z ≤ 5 := by omega
        have eP : imin ((e.map byteRow).length : Int) (imax (Int.ofNat 0) n) = ((min e.length i : Nat) : Int) := by rw [eM, imin_d, List.length_map]; split <;> omega
        have hcut : icut (e.map byteRow) (imin ((e.map byteRow).length : Int) (imax (Int.ofNat 0) n)) ((e.map byteRow).length : Int) = some ((e.drop (min e.length i)).map byteRow) := by
          rw [eP, icut_t (by omega) (by rw [List.length_map]; omega) (Int.le_refl _), Int.toNat_natCast, Int.toNat_natCast, List.take_length, List.map_drop]
        have hfin : ∀ (m : List UInt8) (ca : Nat), digsOk m → m.length = (List.replicate Z 0 ++ e.drop (min e.length i)).length → valD m + ca * 10 ^ m.length = valD (List.replicate Z 0 ++ e.drop (min e.length i)) * sc →
            N = W * sc + ca + (if 5 ≤ (m.headD 0).toNat then 1 else 0) := fun m ca h1 h2 h3 => by rw [← hN2, ← hW]; exact rnd_fin hP hZ h1 h2 h3
        clear hw h13
        repeat' (first
          | (refine vb_t rfl ?_; conv => whnf)
          | (refine vb_f rfl ?_; conv => whnf)
          | (refine vb_t (by assumption) ?_; conv => whnf)
          | (refine vb_f (by assumption) ?_; conv => whnf)
          | fail)
        refine vloop_eq2 (fr' := [(0, .d (.sl 1 (e.map byteRow))), (1, I n), (2, I (sc : Int)), (6, I 0), (7, B false), (8, I (W : Int)), (10, restV none), (60, I (Z : Int)), (61, I ((0 : Nat) : Int))]) (h' := restH 5 none) ?_ rfl ?_
        · exact cons_eq rfl (cons_eq rfl (cons_eq rfl (cons_eq rfl (cons_eq rfl (cons_eq (slot_eq (I_eq (congrArg Int.ofNat hW))) (cons_eq rfl (cons_eq (slot_eq (I_eq eZ)) rfl)))))))
        refine vloop_by (σ := { x : Nat × Option (Nat × List UInt8) // x.1 ≤ Z ∧ bys x.2 = List.replicate x.1 0 })
          (fun x => [(0, .d (.sl 1 (e.map byteRow))), (1, I n), (2, I (sc : Int)), (6, I 0), (7, B false), (8, I (W : Int)), (10, restV x.1.2), (60, I (Z : Int)), (61, I (x.1.1 : Int))])
          (fun x => restH 5 x.1.2) (fun x => Z - x.1.1) ?_ ⟨(0, none), Nat.zero_le _, rfl⟩
        rintro ⟨⟨j, x⟩, hj, hx⟩
        simp only at hj hx
        rcases x with _ | ⟨g, l⟩
        · conv => whnf
          refine vb_i (fun h => ?_) (fun h => ?_) <;> conv => whnf
          · have hjZ : j < Z := by (first | omega | (simp only [ilt_t, ilt_f, ile_t, ile_f, ieq_t, ieq_f, ofn, List.length_map, Bool.not_eq_true', Bool.not_eq_false'] at *; omega))
            have hj0 : j = 0 := by have := congrArg List.length hx; simp [bys] at this; omega
            subst hj0
            repeat' (first
              | (refine vb_t rfl ?_; conv => whnf)
              | (refine vb_f rfl ?_; conv => whnf)
              | (refine vb_t (by assumption) ?_; conv => whnf)
              | (refine vb_f (by assumption) ?_; conv => whnf)
              | (refine vb_t (room_t (by decide)) ?_; conv => whnf)
              | fail)
            exact ⟨⟨(1, some (0, [0])), hjZ, rfl⟩, by simp only; omega,
              cons_eq rfl (cons_eq rfl (cons_eq rfl (cons_eq rfl (cons_eq rfl (cons_eq rfl (cons_eq rfl (cons_eq rfl (cons_eq (slot_eq (I_eq (iadd_one (i := 0) (by omega)))) rfl)))))))), rfl, rfl, rfl⟩
          · have hjZ : j = Z := by (first | omega | (simp only [ilt_t, ilt_f, ile_t, ile_f, ieq_t, ieq_f, ofn, List.length_map, Bool.not_eq_true', Bool.not_eq_false'] at *; omega))
            have hj0 : j = 0 := by have := congrArg List.length hx; simp [bys] at this; omega
            repeat' (first
              | (refine vb_t rfl ?_; conv => whnf)
              | (refine vb_f rfl ?_; conv => whnf)
              | (refine vb_t (by assumption) ?_; conv => whnf)
              | (refine vb_f (by assumption) ?_; conv => whnf)
              | (refine vo_i hcut ?_; conv => whnf)
              | (refine vb_t (room_t (by simp <;> omega)) ?_; conv => whnf)
              | fail)
            have hL0 : List.replicate Z 0 ++ e.drop (min e.length i) = e.drop (min e.length i) := by rw [← hjZ, hj0]; rfl
            rw [hL0] at hfin
            have hLd : digsOk (e.drop (min e.length i)) := fun x hx => heg x (List.mem_of_mem_drop hx)
            have hL : (e.drop (min e.length i)).length ≤ 1000006 := by simp only [List.length_append, List.length_drop]; omega
            obtain ⟨g4, hg4⟩ : ∃ g4 : Nat, (0) = g4 := ⟨_, rfl⟩
            refine vloop_eq2 (fr' := [(2, I (sc : Int)), (6, I 0), (7, B false), (8, I (W : Int)), (10, .osl 0 g4 0 (e.drop (min e.length i)).length), (11, I ((0 : Nat) : Int)), (12, I (((e.drop (min e.length i)).length : Int) - 1))]) (h' := [⟨.mine, 5, .arr true g4 1 ((e.drop (min e.length i)).map byteRow)⟩]) ?_ ?_ ?_
            · exact cons_eq rfl (cons_eq rfl (cons_eq rfl (cons_eq rfl (cons_eq (slot_eq (osl_eq hg4 (by simp))) (cons_eq rfl (cons_eq (slot_eq (I_eq (by rw [ofn, isub64] <;> simp at * <;> omega))) rfl))))))
            · exact cons_eq (arr_eq2 hg4 (by simp)) rfl
            generalize (e.drop (min e.length i)) = l4 at hL hfin hLd ⊢
            clear hg4
            have hgg : Nat.beq g4 g4 = true := by simp
            refine vloop_by (σ := { x : List UInt8 × Nat × Nat // x.2.2 ≤ l4.length ∧ x.1.length = l4.length ∧ x.2.1 ≤ 999 ∧ digsOk x.1 ∧ x.1.take x.2.2 = l4.take x.2.2 ∧ valD (x.1.drop x.2.2) + x.2.1 * 10 ^ (l4.length - x.2.2) = valD (l4.drop x.2.2) * sc })
              (fun x => [(2, I (sc : Int)), (6, I 0), (7, B false), (8, I (W : Int)), (10, .osl 0 g4 0 l4.length), (11, I (x.1.2.1 : Int)), (12, I ((x.1.2.2 : Int) - 1))])
              (fun x => [⟨.mine, 5, .arr true g4 1 (x.1.1.map byteRow)⟩]) (fun x => x.1.2.2) ?_ ⟨(l4, 0, l4.length), Nat.le_refl _, rfl, Nat.zero_le _, hLd, rfl, by simp [valD]⟩
            rintro ⟨⟨m, ca, k⟩, hk, hm, hca, hmd, hmt, hmv⟩
            simp only at hk hm hca hmd hmt hmv
            conv => whnf
            refine vb_i (fun h => ?_) (fun h => ?_) <;> conv => whnf
            · have hk1 : 1 ≤ k := by (first | omega | (simp only [ilt_t, ilt_f, ile_t, ile_f, ieq_t, ieq_f, ofn, List.length_map, Bool.not_eq_true', Bool.not_eq_false'] at *; omega))
              obtain ⟨q, rfl⟩ : ∃ q, k = q + 1 := ⟨k - 1, by omega⟩
              have eq1 : ((q + 1 : Nat) : Int) - 1 = (q : Int) := by omega
              obtain ⟨c, hc⟩ : ∃ c, l4[q]? = some c := ⟨l4[q], List.getElem?_eq_getElem (by omega)⟩
              have hcm : m[q]? = some c := by
                have h1 : (m.take (q + 1))[q]? = (l4.take (q + 1))[q]? := by rw [hmt]
                rw [List.getElem?_take, List.getElem?_take, if_pos (by omega), if_pos (by omega)] at h1
                rw [h1, hc]
              have hc9 := hLd c (List.mem_of_getElem? hc)
              have hr : iget (((m.map byteRow).take l4.length).drop 0) ((q + 1 : Nat) - 1 : Int) = some (byteRow c) := by
                rw [eq1]; exact iget_sl (by rw [Nat.zero_add, List.getElem?_map, hcm]; rfl) (by omega)
              have hr2 : (m.map byteRow)[0 + (((q + 1 : Nat) : Int) - 1).toNat]? = some (byteRow c) := by
                rw [eq1, Int.toNat_natCast, Nat.zero_add, List.getElem?_map, hcm]; rfl
              have hcs : c.toNat * sc ≤ 9 * 1000 := Nat.mul_le_mul hc9 hsc
              have e1 : iadd .i64 (imul .i64 (icast .i64 (c.toNat : Int)) (sc : Int)) (ca : Int) = ((c.toNat * sc + ca : Nat) : Int) := by
                rw [icast64 (by omega) (by omega), imul64 (by rw [← Int.natCast_mul]; omega) (by rw [← Int.natCast_mul]; omega), ← Int.natCast_mul, iadd64 (by omega) (by omega)]; omega
              obtain ⟨x, hx⟩ : ∃ x, c.toNat * sc + ca = x := ⟨_, rfl⟩
              rw [hx] at e1
              have hx9 : x ≤ 9999 := by omega
              repeat' (first
                | (refine vb_t rfl ?_; conv => whnf)
                | (refine vb_f rfl ?_; conv => whnf)
                | (refine vb_t (by assumption) ?_; conv => whnf)
                | (refine vb_f (by assumption) ?_; conv => whnf)
                | (refine vo_i hr ?_; conv => whnf)
                | (refine vo_i hr2 ?_; conv => whnf)
                | (rw [iz_ten]; conv => whnf)
                | fail)
              refine ⟨⟨(m.set q (UInt8.ofNat (x % 10)), x / 10, q), by show q ≤ l4.length; omega, by rw [List.length_set]; exact hm, by show x / 10 ≤ 999; omega, set_dig hmd (by omega), ?_, ?_⟩, by simp only; omega,
                cons_eq rfl (cons_eq rfl (cons_eq rfl (cons_eq rfl (cons_eq rfl (cons_eq (slot_eq (I_eq ?_)) (cons_eq (slot_eq (I_eq ?_)) rfl)))))), cons_eq (arr_eq ?_) rfl, rfl, rfl⟩
              · show (m.set q (UInt8.ofNat (x % 10))).take q = l4.take q
                rw [set_take]
                have h1 := congrArg (List.take q) hmt
                rwa [List.take_take, List.take_take, Nat.min_eq_left (by omega)] at h1
              · show valD ((m.set q (UInt8.ofNat (x % 10))).drop q) + x / 10 * 10 ^ (l4.length - q) = valD (l4.drop q) * sc
                rw [set_drop (by rw [hm]; exact hk), drop_get1 hc]
                have hl1 : (m.drop (q + 1)).length = l4.length - (q + 1) := by rw [List.length_drop, hm]
                have hl2 : l4.length - q = l4.length - (q + 1) + 1 := by omega
                have h2 := mul_step (c := c.toNat) hmv
                rw [hx] at h2
                simp only [valD, hl1, List.length_drop, of_dig (show x % 10 < 256 by omega)]
                rw [hl2, Nat.pow_succ]
                exact h2
              · show iquo .i64 (iadd .i64 (imul .i64 (icast .i64 (c.toNat : Int)) (sc : Int)) (ca : Int)) (Int.ofNat 10) = ((x / 10 : Nat) : Int)
                rw [e1, g_ofn, g_quo (by omega)]
              · show isub .i64 (((q + 1 : Nat) : Int) - 1) (Int.ofNat 1) = (q : Int) - 1
                rw [eq1, ofn, isub64 (by omega) (by omega)]; rfl
              · show (m.map byteRow).set (0 + (((q + 1 : Nat) : Int) - 1).toNat) [DV.int .u8 (icast .u8 (irem (iadd .i64 (imul .i64 (icast .i64 (c.toNat : Int)) (sc : Int)) (ca : Int)) (Int.ofNat 10)))] = (m.set q (UInt8.ofNat (x % 10))).map byteRow
                rw [eq1, Int.toNat_natCast, Nat.zero_add, e1, g_ofn, u_rem, List.map_set, dig_row (show x % 10 < 256 by omega)]
            · have hk0 : k = 0 := by (first | omega | (simp only [ilt_t, ilt_f, ile_t, ile_f, ieq_t, ieq_f, ofn, List.length_map, Bool.not_eq_true', Bool.not_eq_false'] at *; omega))
              subst hk0
              simp only [List.drop_zero, Nat.sub_zero] at hmv
              have hNe := hfin m ca hmd hm (by rw [hm]; exact hmv)
              have hz : ((l4.length : Int) - ((0 : Nat) : Int)) = l4.length := by omega
              cases m with
              | nil =>
                have q1 : ilt (Int.ofNat 0) ((l4.length : Int) - ((0 : Nat) : Int)) = false := by rw [ilt_f, ← hm, ofn]; simp
                have hWs : W * sc ≤ 9999999999999 * 1000 := Nat.mul_le_mul (by omega) hsc
                have e1 : iadd .i64 (imul .i64 (W : Int) (sc : Int)) (ca : Int) = ((W * sc + ca : Nat) : Int) := by
                  rw [imul64 (by rw [← Int.natCast_mul]; omega) (by rw [← Int.natCast_mul]; omega), ← Int.natCast_mul, iadd64 (by omega) (by omega)]; omega
                repeat' (first
                  | (refine vb_t rfl ?_; conv => whnf)
                  | (refine vb_f rfl ?_; conv => whnf)
                  | (refine vb_t (by assumption) ?_; conv => whnf)
                  | (refine vb_f (by assumption) ?_; conv => whnf)
                  | fail)
                refine ⟨(_, _), rfl, rfl, ?_⟩
                have hN0 : N = W * sc + ca := hNe
                show ile (iadd .i64 (imul .i64 (W : Int) (sc : Int)) (ca : Int)) (Int.ofNat 68719476736) = decide (N ≤ 68719476736) ∧ (_ → iadd .i64 (imul .i64 (W : Int) (sc : Int)) (ca : Int) = (N : Nat))
                rw [e1, hN0, ile_d, ofn]
                exact ⟨by rw [decide_eq_decide]; omega, fun _ => rfl⟩
              | cons c m =>
                have q1 : ilt (Int.ofNat 0) ((l4.length : Int) - ((0 : Nat) : Int)) = true := by rw [ilt_t, ← hm, ofn]; simp
                have hr3 : (((c :: m) : List UInt8).map byteRow)[0 + (Int.ofNat 0).toNat]? = some (byteRow c) := rfl
                have hWs : W * sc ≤ 9999999999999 * 1000 := Nat.mul_le_mul (by omega) hsc
                have e1 : iadd .i64 (imul .i64 (W : Int) (sc : Int)) (ca : Int) = ((W * sc + ca : Nat) : Int) := by
                  rw [imul64 (by rw [← Int.natCast_mul]; omega) (by rw [← Int.natCast_mul]; omega), ← Int.natCast_mul, iadd64 (by omega) (by omega)]; omega
                have hr : iget ((((c :: m).map byteRow).take l4.length).drop 0) (Int.ofNat 0) = some (byteRow c) := iget_sl (lo := 0) (hi := l4.length) (i := 0) rfl (by rw [← hm]; simp)
                by_cases h5 : 5 ≤ c.toNat
                · have q3 : ile (Int.ofNat 5) (c.toNat : Int) = true := by rw [ile_t, ofn]; omega
                  have hN0 : N = W * sc + ca + 1 := by rw [hNe]; show _ + (if 5 ≤ c.toNat then 1 else 0) = _; rw [if_pos h5]
                  have e4 : iadd .i64 (iadd .i64 (imul .i64 (W : Int) (sc : Int)) (ca : Int)) (Int.ofNat 1) = ((W * sc + ca + 1 : Nat) : Int) := by rw [e1]; exact iadd_one (by omega)
                  repeat' (first
                    | (refine vb_t rfl ?_; conv => whnf)
                    | (refine vb_f rfl ?_; conv => whnf)
                    | (refine vb_t (by assumption) ?_; conv => whnf)
                    | (refine vb_f (by assumption) ?_; conv => whnf)
                    | (refine vo_i hr ?_; conv => whnf)
                    | (refine vo_i hr3 ?_; conv => whnf)
                    | fail)
                  refine ⟨(_, _), rfl, rfl, ?_⟩
                  show ile (iadd .i64 (iadd .i64 (imul .i64 (W : Int) (sc : Int)) (ca : Int)) (Int.ofNat 1)) (Int.ofNat 68719476736) = decide (N ≤ 68719476736) ∧ (_ → iadd .i64 (iadd .i64 (imul .i64 (W : Int) (sc : Int)) (ca : Int)) (Int.ofNat 1) = (N : Nat))
                  rw [e4, hN0, ile_d, ofn]
                  exact ⟨by rw [decide_eq_decide]; omega, fun _ => rfl⟩
                · have q3 : ile (Int.ofNat 5) (c.toNat : Int) = false := by rw [ile_f, ofn]; omega
                  have hN0 : N = W * sc + ca := by rw [hNe]; show _ + (if 5 ≤ c.toNat then 1 else 0) = _; rw [if_neg h5]; rfl
                  repeat' (first
                    | (refine vb_t rfl ?_; conv => whnf)
                    | (refine vb_f rfl ?_; conv => whnf)
                    | (refine vb_t (by assumption) ?_; conv => whnf)
                    | (refine vb_f (by assumption) ?_; conv => whnf)
                    | (refine vo_i hr ?_; conv => whnf)
                    | (refine vo_i hr3 ?_; conv => whnf)
                    | fail)
                  refine ⟨(_, _), rfl, rfl, ?_⟩
                  show ile (iadd .i64 (imul .i64 (W : Int) (sc : Int)) (ca : Int)) (Int.ofNat 68719476736) = decide (N ≤ 68719476736) ∧ (_ → iadd .i64 (imul .i64 (W : Int) (sc : Int)) (ca : Int) = (N : Nat))
                  rw [e1, hN0, ile_d, ofn]
                  exact ⟨by rw [decide_eq_decide]; omega, fun _ => rfl⟩
        · have hll : l.length = j := by have := congrArg List.length hx; simpa [bys] using this
          conv => whnf
          refine vb_i (fun h => ?_) (fun h => ?_) <;> conv => whnf
          · have hjZ : j < Z := by (first | omega | (simp only [ilt_t, ilt_f, ile_t, ile_f, ieq_t, ieq_f, ofn, List.length_map, Bool.not_eq_true', Bool.not_eq_false'] at *; omega))
            have hg : Nat.beq g g = true := by simp
            have hq : ieq (l.length : Int) ((l.map byteRow).length : Int) = true := by rw [ieq_t]; simp
            repeat' (first
              | (refine vb_t rfl ?_; conv => whnf)
              | (refine vb_f rfl ?_; conv => whnf)
              | (refine vb_t (by assumption) ?_; conv => whnf)
              | (refine vb_f (by assumption) ?_; conv => whnf)
              | (refine vb_t (room_t (by simp <;> omega)) ?_; conv => whnf)
              | fail)
            refine ⟨⟨(j + 1, some (g + 1, l ++ [0])), hjZ, ?_⟩, by simp only; omega,
              cons_eq rfl (cons_eq rfl (cons_eq rfl (cons_eq rfl (cons_eq rfl (cons_eq rfl (cons_eq (slot_eq (osl_eq rfl (by simp))) (cons_eq rfl (cons_eq (slot_eq (I_eq (iadd_one (i := j) (by omega)))) rfl)))))))), cons_eq (arr_eq (by simp; rfl)) rfl, rfl, rfl⟩
            show l ++ [0] = List.replicate (j + 1) 0
            have hx2 : l = List.replicate j 0 := hx
            rw [hx2, List.replicate_succ']
          · have hjZ : j = Z := by (first | omega | (simp only [ilt_t, ilt_f, ile_t, ile_f, ieq_t, ieq_f, ofn, List.length_map, Bool.not_eq_true', Bool.not_eq_false'] at *; omega))
            have hg : Nat.beq g g = true := by simp
            have hq : ieq (l.length : Int) ((l.map byteRow).length : Int) = true := by rw [ieq_t]; simp
            repeat' (first
              | (refine vb_t rfl ?_; conv => whnf)
              | (refine vb_f rfl ?_; conv => whnf)
              | (refine vb_t (by assumption) ?_; conv => whnf)
              | (refine vb_f (by assumption) ?_; conv => whnf)
              | (refine vo_i hcut ?_; conv => whnf)
              | (refine vb_t (room_t (by simp <;> omega)) ?_; conv => whnf)
              | fail)
            have hx2 : l = List.replicate Z 0 := by rw [← hjZ]; exact hx
            rw [← hx2] at hfin
            have hLd : digsOk (l ++ e.drop (min e.length i)) := digsOk_append (by rw [hx2]; intro c hc; rw [List.eq_of_mem_replicate hc]; decide) fun x hx => heg x (List.mem_of_mem_drop hx)
            have hL : (l ++ e.drop (min e.length i)).length ≤ 1000006 := by simp only [List.length_append, List.length_drop]; omega
            obtain ⟨g4, hg4⟩ : ∃ g4 : Nat, (g + 1) = g4 := ⟨_, rfl⟩
            refine vloop_eq2 (fr' := [(2, I (sc : Int)), (6, I 0), (7, B false), (8, I (W : Int)), (10, .osl 0 g4 0 (l ++ e.drop (min e.length i)).length), (11, I ((0 : Nat) : Int)), (12, I (((l ++ e.drop (min e.length i)).length : Int) - 1))]) (h' := [⟨.mine, 5, .arr true g4 1 ((l ++ e.drop (min e.length i)).map byteRow)⟩]) ?_ ?_ ?_
            · exact cons_eq rfl (cons_eq rfl (cons_eq rfl (cons_eq rfl (cons_eq (slot_eq (osl_eq hg4 (by simp))) (cons_eq rfl (cons_eq (slot_eq (I_eq (by rw [ofn, isub64] <;> simp at * <;> omega))) rfl))))))
            · exact cons_eq (arr_eq2 hg4 (by simp)) rfl
            generalize (l ++ e.drop (min e.length i)) = l4 at hL hfin hLd ⊢
            clear hg4
            have hgg : Nat.beq g4 g4 = true := by simp
            refine vloop_by (σ := { x : List UInt8 × Nat × Nat // x.2.2 ≤ l4.length ∧ x.1.length = l4.length ∧ x.2.1 ≤ 999 ∧ digsOk x.1 ∧ x.1.take x.2.2 = l4.take x.2.2 ∧ valD (x.1.drop x.2.2) + x.2.1 * 10 ^ (l4.length - x.2.2) = valD (l4.drop x.2.2) * sc })
              (fun x => [(2, I (sc : Int)), (6, I 0), (7, B false), (8, I (W : Int)), (10, .osl 0 g4 0 l4.length), (11, I (x.1.2.1 : Int)), (12, I ((x.1.2.2 : Int) - 1))])
              (fun x => [⟨.mine, 5, .arr true g4 1 (x.1.1.map byteRow)⟩]) (fun x => x.1.2.2) ?_ ⟨(l4, 0, l4.length), Nat.le_refl _, rfl, Nat.zero_le _, hLd, rfl, by simp [valD]⟩
            rintro ⟨⟨m, ca, k⟩, hk, hm, hca, hmd, hmt, hmv⟩
            simp only at hk hm hca hmd hmt hmv
            conv => whnf
            refine vb_i (fun h => ?_) (fun h => ?_) <;> conv => whnf
            · have hk1 : 1 ≤ k := by (first | omega | (simp only [ilt_t, ilt_f, ile_t, ile_f, ieq_t, ieq_f, ofn, List.length_map, Bool.not_eq_true', Bool.not_eq_false'] at *; omega))
              obtain ⟨q, rfl⟩ : ∃ q, k = q + 1 := ⟨k - 1, by omega⟩
              have eq1 : ((q + 1 : Nat) : Int) - 1 = (q : Int) := by omega
              obtain ⟨c, hc⟩ : ∃ c, l4[q]? = some c := ⟨l4[q], List.getElem?_eq_getElem (by omega)⟩
              have hcm : m[q]? = some c := by
                have h1 : (m.take (q + 1))[q]? = (l4.take (q + 1))[q]? := by rw [hmt]
                rw [List.getElem?_take, List.getElem?_take, if_pos (by omega), if_pos (by omega)] at h1
                rw [h1, hc]
              have hc9 := hLd c (List.mem_of_getElem? hc)
              have hr : iget (((m.map byteRow).take l4.length).drop 0) ((q + 1 : Nat) - 1 : Int) = some (byteRow c) := by
                rw [eq1]; exact iget_sl (by rw [Nat.zero_add, List.getElem?_map, hcm]; rfl) (by omega)
              have hr2 : (m.map byteRow)[0 + (((q + 1 : Nat) : Int) - 1).toNat]? = some (byteRow c) := by
                rw [eq1, Int.toNat_natCast, Nat.zero_add, List.getElem?_map, hcm]; rfl
              have hcs : c.toNat * sc ≤ 9 * 1000 := Nat.mul_le_mul hc9 hsc
              have e1 : iadd .i64 (imul .i64 (icast .i64 (c.toNat : Int)) (sc : Int)) (ca : Int) = ((c.toNat * sc + ca : Nat) : Int) := by
                rw [icast64 (by omega) (by omega), imul64 (by rw [← Int.natCast_mul]; omega) (by rw [← Int.natCast_mul]; omega), ← Int.natCast_mul, iadd64 (by omega) (by omega)]; omega
              obtain ⟨x, hx⟩ : ∃ x, c.toNat * sc + ca = x := ⟨_, rfl⟩
              rw [hx] at e1
              have hx9 : x ≤ 9999 := by omega
              repeat' (first
                | (refine vb_t rfl ?_; conv => whnf)
                | (refine vb_f rfl ?_; conv => whnf)
                | (refine vb_t (by assumption) ?_; conv => whnf)
                | (refine vb_f (by assumption) ?_; conv => whnf)
                | (refine vo_i hr ?_; conv => whnf)
                | (refine vo_i hr2 ?_; conv => whnf)
                | (rw [iz_ten]; conv => whnf)
                | fail)
              refine ⟨⟨(m.set q (UInt8.ofNat (x % 10)), x / 10, q), by show q ≤ l4.length; omega, by rw [List.length_set]; exact hm, by show x / 10 ≤ 999; omega, set_dig hmd (by omega), ?_, ?_⟩, by simp only; omega,
                cons_eq rfl (cons_eq rfl (cons_eq rfl (cons_eq rfl (cons_eq rfl (cons_eq (slot_eq (I_eq ?_)) (cons_eq (slot_eq (I_eq ?_)) rfl)))))), cons_eq (arr_eq ?_) rfl, rfl, rfl⟩
              · show (m.set q (UInt8.ofNat (x % 10))).take q = l4.take q
                rw [set_take]
                have h1 := congrArg (List.take q) hmt
                rwa [List.take_take, List.take_take, Nat.min_eq_left (by omega)] at h1
              · show valD ((m.set q (UInt8.ofNat (x % 10))).drop q) + x / 10 * 10 ^ (l4.length - q) = valD (l4.drop q) * sc
                rw [set_drop (by rw [hm]; exact hk), drop_get1 hc]
                have hl1 : (m.drop (q + 1)).length = l4.length - (q + 1) := by rw [List.length_drop, hm]
                have hl2 : l4.length - q = l4.length - (q + 1) + 1 := by omega
                have h2 := mul_step (c := c.toNat) hmv
                rw [hx] at h2
                simp only [valD, hl1, List.length_drop, of_dig (show x % 10 < 256 by omega)]
                rw [hl2, Nat.pow_succ]
                exact h2
              · show iquo .i64 (iadd .i64 (imul .i64 (icast .i64 (c.toNat : Int)) (sc : Int)) (ca : Int)) (Int.ofNat 10) = ((x / 10 : Nat) : Int)
                rw [e1, g_ofn, g_quo (by omega)]
              · show isub .i64 (((q + 1 : Nat) : Int) - 1) (Int.ofNat 1) = (q : Int) - 1
                rw [eq1, ofn, isub64 (by omega) (by omega)]; rfl
              · show (m.map byteRow).set (0 + (((q + 1 : Nat) : Int) - 1).toNat) [DV.int .u8 (icast .u8 (irem (iadd .i64 (imul .i64 (icast .i64 (c.toNat : Int)) (sc : Int)) (ca : Int)) (Int.ofNat 10)))] = (m.set q (UInt8.ofNat (x % 10))).map byteRow
                rw [eq1, Int.toNat_natCast, Nat.zero_add, e1, g_ofn, u_rem, List.map_set, dig_row (show x % 10 < 256 by omega)]
            · have hk0 : k = 0 := by (first | omega | (simp only [ilt_t, ilt_f, ile_t, ile_f, ieq_t, ieq_f, ofn, List.length_map, Bool.not_eq_true', Bool.not_eq_false'] at *; omega))
              subst hk0
              simp only [List.drop_zero, Nat.sub_zero] at hmv
              have hNe := hfin m ca hmd hm (by rw [hm]; exact hmv)
              have hz : ((l4.length : Int) - ((0 : Nat) : Int)) = l4.length := by omega
              cases m with
              | nil =>
                have q1 : ilt (Int.ofNat 0) ((l4.length : Int) - ((0 : Nat) : Int)) = false := by rw [ilt_f, ← hm, ofn]; simp
                have hWs : W * sc ≤ 9999999999999 * 1000 := Nat.mul_le_mul (by omega) hsc
                have e1 : iadd .i64 (imul .i64 (W : Int) (sc : Int)) (ca : Int) = ((W * sc + ca : Nat) : Int) := by
                  rw [imul64 (by rw [← Int.natCast_mul]; omega) (by rw [← Int.natCast_mul]; omega), ← Int.natCast_mul, iadd64 (by omega) (by omega)]; omega
                repeat' (first
                  | (refine vb_t rfl ?_; conv => whnf)
                  | (refine vb_f rfl ?_; conv => whnf)
                  | (refine vb_t (by assumption) ?_; conv => whnf)
                  | (refine vb_f (by assumption) ?_; conv => whnf)
                  | fail)
                refine ⟨(_, _), rfl, rfl, ?_⟩
                have hN0 : N = W * sc + ca := hNe
                show ile (iadd .i64 (imul .i64 (W : Int) (sc : Int)) (ca : Int)) (Int.ofNat 68719476736) = decide (N ≤ 68719476736) ∧ (_ → iadd .i64 (imul .i64 (W : Int) (sc : Int)) (ca : Int) = (N : Nat))
                rw [e1, hN0, ile_d, ofn]
                exact ⟨by rw [decide_eq_decide]; omega, fun _ => rfl⟩
              | cons c m =>
                have q1 : ilt (Int.ofNat 0) ((l4.length : Int) - ((0 : Nat) : Int)) = true := by rw [ilt_t, ← hm, ofn]; simp
                have hr3 : (((c :: m) : List UInt8).map byteRow)[0 + (Int.ofNat 0).toNat]? = some (byteRow c) := rfl
                have hWs : W * sc ≤ 9999999999999 * 1000 := Nat.mul_le_mul (by omega) hsc
                have e1 : iadd .i64 (imul .i64 (W : Int) (sc : Int)) (ca : Int) = ((W * sc + ca : Nat) : Int) := by
                  rw [imul64 (by rw [← Int.natCast_mul]; omega) (by rw [← Int.natCast_mul]; omega), ← Int.natCast_mul, iadd64 (by omega) (by omega)]; omega
                have hr : iget ((((c :: m).map byteRow).take l4.length).drop 0) (Int.ofNat 0) = some (byteRow c) := iget_sl (lo := 0) (hi := l4.length) (i := 0) rfl (by rw [← hm]; simp)
                by_cases h5 : 5 ≤ c.toNat
                · have q3 : ile (Int.ofNat 5) (c.toNat : Int) = true := by rw [ile_t, ofn]; omega
                  have hN0 : N = W * sc + ca + 1 := by rw [hNe]; show _ + (if 5 ≤ c.toNat then 1 else 0) = _; rw [if_pos h5]
                  have e4 : iadd .i64 (iadd .i64 (imul .i64 (W : Int) (sc : Int)) (ca : Int)) (Int.ofNat 1) = ((W * sc + ca + 1 : Nat) : Int) := by rw [e1]; exact iadd_one (by omega)
                  repeat' (first
                    | (refine vb_t rfl ?_; conv => whnf)
                    | (refine vb_f rfl ?_; conv => whnf)
                    | (refine vb_t (by assumption) ?_; conv => whnf)
                    | (refine vb_f (by assumption) ?_; conv => whnf)
                    | (refine vo_i hr ?_; conv => whnf)
                    | (refine vo_i hr3 ?_; conv => whnf)
                    | fail)
                  refine ⟨(_, _), rfl, rfl, ?_⟩
                  show ile (iadd .i64 (iadd .i64 (imul .i64 (W : Int) (sc : Int)) (ca : Int)) (Int.ofNat 1)) (Int.ofNat 68719476736) = decide (N ≤ 68719476736) ∧ (_ → iadd .i64 (iadd .i64 (imul .i64 (W : Int) (sc : Int)) (ca : Int)) (Int.ofNat 1) = (N : Nat))
                  rw [e4, hN0, ile_d, ofn]
                  exact ⟨by rw [decide_eq_decide]; omega, fun _ => rfl⟩
                · have q3 : ile (Int.ofNat 5) (c.toNat : Int) = false := by rw [ile_f, ofn]; omega
                  have hN0 : N = W * sc + ca := by rw [hNe]; show _ + (if 5 ≤ c.toNat then 1 else 0) = _; rw [if_neg h5]; rfl
                  repeat' (first
                    | (refine vb_t rfl ?_; conv => whnf)
                    | (refine vb_f rfl ?_; conv => whnf)
                    | (refine vb_t (by assumption) ?_; conv => whnf)
                    | (refine vb_f (by assumption) ?_; conv => whnf)
                    | (refine vo_i hr ?_; conv => whnf)
                    | (refine vo_i hr3 ?_; conv => whnf)
                    | fail)
                  refine ⟨(_, _), rfl, rfl, ?_⟩
                  show ile (iadd .i64 (imul .i64 (W : Int) (sc : Int)) (ca : Int)) (Int.ofNat 68719476736) = decide (N ≤ 68719476736) ∧ (_ → iadd .i64 (imul .i64 (W : Int) (sc : Int)) (ca : Int) = (N : Nat))
                  rw [e1, hN0, ile_d, ofn]
                  exact ⟨by rw [decide_eq_decide]; omega, fun _ => rfl⟩
end Go.Proofs.YtjjolfgpphjhkaaGreatDoor.Ab
/- Layer 2 (number): a number's exponent, its value: exactly. -/
namespace Go.Proofs.YtjjolfgpphjhkaaGreatDoor.Ab
open Go
set_option linter.unusedSimpArgs false
set_option maxRecDepth 100000
set_option linter.unusedVariables false
set_option maxHeartbeats 4000000

/-- The exponent, as far as it matters. -/
def expS (n : Nat) (c : UInt8) : Nat := if isDig c = true then min 1000 (10 * n + (c.toNat - 48)) else n
def expD (l : List UInt8) : Nat := l.foldl expS 0
def expV (x : List UInt8) : Int := if x[0]? = some 45 then -(expD x : Int) else expD x
theorem expS_le {n : Nat} (c : UInt8) (h : n ≤ 1000) : expS n c ≤ 1000 := by unfold expS; split <;> omega
theorem fold_le : ∀ (l : List UInt8) (n : Nat), n ≤ 1000 → l.foldl expS n ≤ 1000
  | [], n, h => h
  | c :: l, n, h => fold_le l _ (expS_le c h)
theorem expD_le (l : List UInt8) : expD l ≤ 1000 := fold_le l 0 (by omega)
theorem isub_dig {c : UInt8} (h : isDig c = true) : isub .u8 (c.toNat : Int) (Int.ofNat 48) = ((c.toNat - 48 : Nat) : Int) := by
  simp only [isDig, Bool.and_eq_true, decide_eq_true_eq] at h
  unfold isub
  simp only [IntKind.wrap, IntKind.signed, IntKind.bits, Bool.false_and, Bool.false_eq_true, if_false, ofn]
  omega
theorem exponentX_ok (p : NumP) (hp : p.exp.length ≤ 140737488355328) : Pur F0 84 [numA p] [] .no (.ret (I (expV p.exp))) .no := by
  refine pur_code code84_ok ?_
  conv => whnf
  refine vloop_by (σ := { i : Nat // i ≤ p.exp.length }) (fun i => [(1, .ptr 0 0), (2, I 0), (3, I (expD (p.exp.take i.1) : Nat)), (7, I p.exp.length), (8, I (i.1 : Int))])
    (fun _ => [⟨.mine, _, .fix [B p.below, S p.whole, S p.part, S p.exp, I p.stop]⟩]) (fun i => p.exp.length - i.1) ?_ ⟨0, Nat.zero_le _⟩
  rintro ⟨i, hi⟩
  conv => whnf
  refine vb_i (fun h => ?_) (fun h => ?_) <;> conv => whnf
  · have hlt : i < p.exp.length := by (first | omega | (simp only [ilt_t, ilt_f, ile_t, ile_f, ieq_t, ieq_f, ofn, List.length_map, Bool.not_eq_true', Bool.not_eq_false'] at *; omega))
    obtain ⟨c, hc⟩ : ∃ c, p.exp[i]? = some c := ⟨p.exp[i], List.getElem?_eq_getElem hlt⟩
    have hg : iget p.exp (i : Int) = some c := iget_t hc
    have hle := expD_le (p.exp.take i)
    have hnext : expD (p.exp.take (i + 1)) = expS (expD (p.exp.take i)) c := by
      unfold expD
      rw [List.take_add_one, hc, List.foldl_append]; rfl
    obtain ⟨n, hn⟩ : ∃ n, expD (p.exp.take i) = n := ⟨_, rfl⟩
    rw [hn] at hle hnext
    by_cases hd : isDig c = true
    · have hd2 := hd
      simp only [isDig, Bool.and_eq_true, decide_eq_true_eq] at hd2
      have e1 : imin (Int.ofNat 1000) (iadd .i64 (imul .i64 (Int.ofNat 10) (n : Int)) (icast .i64 (isub .u8 (c.toNat : Int) (Int.ofNat 48)))) = ((expS n c : Nat) : Int) := by
        rw [isub_dig hd, ofn, ofn, imul64 (by omega) (by omega), icast64 (by omega) (by omega), iadd64 (by omega) (by omega), imin_d]
        unfold expS; rw [if_pos hd]
        split <;> omega
      repeat' (first
        | (refine vb_t rfl ?_; conv => whnf)
        | (refine vb_f rfl ?_; conv => whnf)
        | (refine vb_t (by assumption) ?_; conv => whnf)
        | (refine vb_f (by assumption) ?_; conv => whnf)
        | (refine vo_i hg ?_; conv => whnf)
        | (refine vpur_i (digit_ok c) ?_; conv => whnf)
        | fail)
      refine ⟨⟨i + 1, hlt⟩, by simp only; omega, cons_eq rfl (cons_eq rfl (cons_eq (slot_eq (I_eq ?_)) (cons_eq rfl (cons_eq (slot_eq (I_eq (iadd_one (i := i) (by omega)))) rfl)))), rfl, rfl, rfl⟩
      show imin (Int.ofNat 1000) (iadd .i64 (imul .i64 (Int.ofNat 10) ((expD (p.exp.take i) : Nat) : Int)) (icast .i64 (isub .u8 (c.toNat : Int) (Int.ofNat 48)))) = ((expD (p.exp.take (i + 1)) : Nat) : Int)
      rw [hn, hnext, e1]
    · have hd : isDig c = false := by simpa using hd
      repeat' (first
        | (refine vb_t rfl ?_; conv => whnf)
        | (refine vb_f rfl ?_; conv => whnf)
        | (refine vb_t (by assumption) ?_; conv => whnf)
        | (refine vb_f (by assumption) ?_; conv => whnf)
        | (refine vo_i hg ?_; conv => whnf)
        | (refine vpur_i (digit_ok c) ?_; conv => whnf)
        | fail)
      refine ⟨⟨i + 1, hlt⟩, by simp only; omega, cons_eq rfl (cons_eq rfl (cons_eq (slot_eq (I_eq ?_)) (cons_eq rfl (cons_eq (slot_eq (I_eq (iadd_one (i := i) (by omega)))) rfl)))), rfl, rfl, rfl⟩
      show ((expD (p.exp.take i) : Nat) : Int) = ((expD (p.exp.take (i + 1)) : Nat) : Int)
      rw [hn, hnext]; unfold expS; rw [if_neg (by rw [hd]; decide)]
  · have hi2 : i = p.exp.length := by (first | omega | (simp only [ilt_t, ilt_f, ile_t, ile_f, ieq_t, ieq_f, ofn, List.length_map, Bool.not_eq_true', Bool.not_eq_false'] at *; omega))
    have hT : p.exp.take i = p.exp := by rw [hi2, List.take_length]
    have hle := expD_le p.exp
    have hV : ∀ b : Bool, decide (p.exp[0]? = some 45) = b → expV p.exp = if b = true then -(expD p.exp : Int) else expD p.exp := fun b hb => by subst hb; unfold expV; simp
    by_cases hpe : p.exp = []
    · have hq : seq p.exp [] = true := by rw [seq_t]; exact hpe
      have hq2 : (!seq p.exp []) = false := by rw [hq]; rfl
      repeat' (first
        | (refine vb_t rfl ?_; conv => whnf)
        | (refine vb_f rfl ?_; conv => whnf)
        | (refine vb_t (by assumption) ?_; conv => whnf)
        | (refine vb_f (by assumption) ?_; conv => whnf)
        | (rw [hq2]; conv => whnf)
        | fail)
      refine ⟨congrArg CR.ret (I_eq ?_), by trivial⟩
      show ((expD (p.exp.take i) : Nat) : Int) = _
      rw [hT, hV false (by rw [hpe]; rfl)]; rfl
    · have hq : seq p.exp [] = false := by rw [seq_f]; exact hpe
      have hq2 : (!seq p.exp []) = true := by rw [hq]; rfl
      have h0 := List.length_pos_iff.2 hpe
      obtain ⟨c, hc0⟩ : ∃ c, p.exp[0]? = some c := ⟨p.exp[0], List.getElem?_eq_getElem h0⟩
      have hc : iget p.exp (Int.ofNat 0) = some c := iget_t hc0
      by_cases h45 : c = 45
      · have q5 : ieq (c.toNat : Int) (Int.ofNat 45) = true := ieq_c 45 rfl h45
        repeat' (first
          | (refine vb_t rfl ?_; conv => whnf)
          | (refine vb_f rfl ?_; conv => whnf)
          | (refine vb_t (by assumption) ?_; conv => whnf)
          | (refine vb_f (by assumption) ?_; conv => whnf)
          | (rw [hq2]; conv => whnf)
          | (refine vo_i hc ?_; conv => whnf)
          | fail)
        refine ⟨congrArg CR.ret (I_eq ?_), by trivial⟩
        show isub .i64 0 ((expD (p.exp.take i) : Nat) : Int) = _
        rw [hT, hV true (by rw [hc0, h45]; rfl), isub64 (by omega) (by omega), if_pos rfl]; omega
      · have q5 : ieq (c.toNat : Int) (Int.ofNat 45) = false := ieq_nc 45 rfl h45
        repeat' (first
          | (refine vb_t rfl ?_; conv => whnf)
          | (refine vb_f rfl ?_; conv => whnf)
          | (refine vb_t (by assumption) ?_; conv => whnf)
          | (refine vb_f (by assumption) ?_; conv => whnf)
          | (rw [hq2]; conv => whnf)
          | (refine vo_i hc ?_; conv => whnf)
          | fail)
        refine ⟨congrArg CR.ret (I_eq ?_), by trivial⟩
        show ((expD (p.exp.take i) : Nat) : Int) = _
        rw [hT, hV false (by rw [hc0, decide_eq_false_iff_not]; exact fun h => h45 (Option.some.inj h))]; rfl
/-! ### The value -/
def dgt (c : UInt8) : UInt8 := UInt8.ofNat (c.toNat - 48)
def dgs (p : NumP) : List UInt8 := (p.whole ++ p.part).map dgt
def numV (s : List UInt8) (sc : Nat) : Int × Int :=
  if (numP s).stop = 0 ∨ (numP s).stop ≠ s.length ∨ 300 < s.length then (0, 21)
  else if rndN (valD (dgs (numP s)) * sc) (((numP s).part.length : Int) - expV (numP s).exp) ≤ 68719476736 then
    (if (numP s).below = true then -(rndN (valD (dgs (numP s)) * sc) (((numP s).part.length : Int) - expV (numP s).exp) : Int) else (rndN (valD (dgs (numP s)) * sc) (((numP s).part.length : Int) - expV (numP s).exp) : Nat), 0)
  else (0, 10)
theorem tw_all {p : UInt8 → Bool} : ∀ (l : List UInt8) (c : UInt8), c ∈ l.takeWhile p → p c = true
  | [], c, h => by cases h
  | x :: l, c, h => by
    rw [List.takeWhile_cons] at h
    split at h
    · rename_i hp
      rcases List.mem_cons.1 h with rfl | h
      · exact hp
      · exact tw_all l c h
    · cases h
theorem digs_dig (s : List UInt8) (i : Nat) : ∀ c ∈ digs s i, isDig c = true := fun c hc => by
  unfold digs at hc
  exact tw_all _ c hc
theorem digs_le2 (s : List UInt8) (i : Nat) : (digs s i).length ≤ s.length := by
  have := (List.takeWhile_prefix isDig (l := s.drop i)).length_le
  unfold digs; simp at this; omega
theorem pP_dig (s : List UInt8) : ∀ c ∈ pP s, isDig c = true := fun c hc => by
  unfold pP at hc; split at hc
  · exact digs_dig _ _ c hc
  · cases hc
theorem numP_facts (s : List UInt8) : (numP s).whole.length ≤ s.length ∧ (numP s).part.length ≤ s.length ∧ (numP s).exp.length ≤ s.length ∧ ∀ c ∈ (numP s).whole ++ (numP s).part, isDig c = true := by
  have h1 := digs_le2 s (pA s)
  have h2 : (pP s).length ≤ s.length := by
    unfold pP; split
    · exact digs_le2 _ _
    · exact Nat.zero_le _
  have h3 : ∀ c ∈ digs s (pA s) ++ pP s, isDig c = true := fun c hc => by
    rcases List.mem_append.1 hc with hc | hc
    · exact digs_dig _ _ c hc
    · exact pP_dig _ c hc
  unfold numP
  split
  · exact ⟨Nat.zero_le _, Nat.zero_le _, Nat.zero_le _, fun c hc => by cases hc⟩
  · split
    · exact ⟨h1, h2, by simp; omega, h3⟩
    · exact ⟨h1, h2, Nat.zero_le _, h3⟩
theorem dgt_le {c : UInt8} (h : isDig c = true) : (dgt c).toNat ≤ 9 := by
  simp only [isDig, Bool.and_eq_true, decide_eq_true_eq] at h
  unfold dgt; rw [of_dig (by omega)]; omega
theorem dgs_ok {l : List UInt8} (h : ∀ c ∈ l, isDig c = true) : digsOk (l.map dgt) := fun c hc => by
  obtain ⟨x, hx, rfl⟩ := List.mem_map.1 hc
  exact dgt_le (h x hx)
def subK (d : List UInt8) (k : Nat) : List UInt8 := (d.take k).map dgt ++ d.drop k
theorem subK_len (d : List UInt8) (k : Nat) : (subK d k).length = d.length := by unfold subK; simp; omega
theorem subK_get {d : List UInt8} {k : Nat} {c : UInt8} (h : d[k]? = some c) : (subK d k)[k]? = some c := by
  have hk := (List.getElem?_eq_some_iff.1 h).1
  unfold subK
  rw [List.getElem?_append_right (by simp; omega), List.getElem?_drop]
  have : k + (k - ((d.take k).map dgt).length) = k := by simp; omega
  rw [this, h]
theorem subK_set {d : List UInt8} {k : Nat} {c : UInt8} (h : d[k]? = some c) : (subK d k).set k (dgt c) = subK d (k + 1) := by
  have hk := (List.getElem?_eq_some_iff.1 h).1
  have hl : ((d.take k).map dgt).length = k := by simp; omega
  unfold subK
  rw [List.set_append_right _ _ (by omega), hl, Nat.sub_self, drop_get1 h, List.take_add_one, h, List.map_append]
  simp
theorem valueX_ok (s : List UInt8) (sc : Nat) (hsc : sc = 1 ∨ sc = 64 ∨ sc = 1000) (hs : s.length ≤ 100000) : Pur F0 55 [S s, I (sc : Int)] [] .no (.ret (.tup [I (numV s sc).1, I (numV s sc).2])) .no := by
  have q1 : (!decide ((sc : Int) = 1 ∨ (sc : Int) = 64 ∨ (sc : Int) = 1000)) = false := by simp; omega
  obtain ⟨l1, l2, l3, l4⟩ := numP_facts s
  obtain ⟨V, hV⟩ : ∃ V, numV s sc = V := ⟨_, rfl⟩
  rw [hV]
  unfold numV at hV
  refine pur_code code55_ok ?_
  conv => whnf
  repeat' (first
    | (refine vb_t rfl ?_; conv => whnf)
    | (refine vb_f rfl ?_; conv => whnf)
    | (refine vb_t (by assumption) ?_; conv => whnf)
    | (refine vb_f (by assumption) ?_; conv => whnf)
    | (refine vpur_i (isScale_ok (sc : Int)) ?_; conv => whnf)
    | (refine vpur_i (parts_ok s (by omega)) ?_; conv => whnf)
    | fail)
  by_cases h0 : (numP s).stop = 0
  · have q2 : ieq ((numP s).stop : Int) (Int.ofNat 0) = true := by rw [ieq_t, h0]; rfl
    rw [if_pos (.inl h0)] at hV
    subst hV
    repeat' (first
      | (refine vb_t rfl ?_; conv => whnf)
      | (refine vb_f rfl ?_; conv => whnf)
      | (refine vb_t (by assumption) ?_; conv => whnf)
      | (refine vb_f (by assumption) ?_; conv => whnf)
      | fail)
    exact ⟨rfl, rfl⟩
  have q2 : ieq ((numP s).stop : Int) (Int.ofNat 0) = false := by rw [ieq_f, ofn]; omega
  by_cases h1 : (numP s).stop = s.length
  · have q3 : (!ieq ((numP s).stop : Int) (s.length : Int)) = false := by rw [ieq_t.mpr (congrArg _ h1)]; rfl
    by_cases h2 : 300 < s.length
    · have q4 : ilt (Int.ofNat 300) (s.length : Int) = true := by rw [ilt_t, ofn]; omega
      rw [if_pos (.inr (.inr h2))] at hV
      subst hV
      repeat' (first
        | (refine vb_t rfl ?_; conv => whnf)
        | (refine vb_f rfl ?_; conv => whnf)
        | (refine vb_t (by assumption) ?_; conv => whnf)
        | (refine vb_f (by assumption) ?_; conv => whnf)
        | fail)
      exact ⟨rfl, rfl⟩
    · have q4 : ilt (Int.ofNat 300) (s.length : Int) = false := by rw [ilt_f, ofn]; omega
      rw [if_neg (by omega)] at hV
      have hD : ((numP s).whole ++ (numP s).part).length ≤ 200000 := by simp; omega
      have hE := expD_le (numP s).exp
      have hE2 : -1000 ≤ expV (numP s).exp ∧ expV (numP s).exp ≤ 1000 := by unfold expV; split <;> omega
      have hlen : ((((numP s).whole ++ (numP s).part).length : Nat) : Int) - ((numP s).whole.length + expV (numP s).exp) = ((numP s).part.length : Int) - expV (numP s).exp := by rw [List.length_append]; omega
      repeat' (first
        | (refine vb_t rfl ?_; conv => whnf)
        | (refine vb_f rfl ?_; conv => whnf)
        | (refine vb_t (by assumption) ?_; conv => whnf)
        | (refine vb_f (by assumption) ?_; conv => whnf)
        | (refine vb_t (roomS_t (by omega)) ?_; conv => whnf)
        | (refine vb_t (room_t (by simp; omega)) ?_; conv => whnf)
        | fail)
      refine vloop_eq2 (fr' := [(1, I (sc : Int)), (4, I 0), (5, I 0), (6, .ptr 0 0), (7, .osl 1 0 0 ((numP s).whole ++ (numP s).part).length), (38, I ((numP s).whole ++ (numP s).part).length), (39, I ((0 : Nat) : Int))])
        (h' := [⟨.mine, 114, .fix [B (numP s).below, S (numP s).whole, S (numP s).part, S (numP s).exp, I (numP s).stop]⟩, ⟨.mine, 5, .arr false 0 1 ((subK ((numP s).whole ++ (numP s).part) 0).map byteRow)⟩]) ?_ ?_ ?_
      · exact cons_eq rfl (cons_eq rfl (cons_eq rfl (cons_eq rfl (cons_eq rfl (cons_eq (slot_eq (I_eq (by omega))) rfl)))))
      · rfl
      have hdg : dgs (numP s) = ((numP s).whole ++ (numP s).part).map dgt := rfl
      rw [hdg] at hV
      obtain ⟨d0, hd0⟩ : ∃ d0, (numP s).whole ++ (numP s).part = d0 := ⟨_, rfl⟩
      rw [hd0] at hD l4 hV hlen ⊢
      refine vloop_by (σ := { k : Nat // k ≤ d0.length }) (fun k => [(1, I (sc : Int)), (4, I 0), (5, I 0), (6, .ptr 0 0), (7, .osl 1 0 0 d0.length), (38, I d0.length), (39, I (k.1 : Int))])
        (fun k => [⟨.mine, 114, .fix [B (numP s).below, S (numP s).whole, S (numP s).part, S (numP s).exp, I (numP s).stop]⟩, ⟨.mine, 5, .arr false 0 1 ((subK d0 k.1).map byteRow)⟩]) (fun k => d0.length - k.1) ?_ ⟨0, Nat.zero_le _⟩
      rintro ⟨k, hk⟩
      conv => whnf
      refine vb_i (fun h => ?_) (fun h => ?_) <;> conv => whnf
      · have hlt : k < d0.length := by (first | omega | (simp only [ilt_t, ilt_f, ile_t, ile_f, ieq_t, ieq_f, ofn, List.length_map, Bool.not_eq_true', Bool.not_eq_false'] at *; omega))
        obtain ⟨c, hc⟩ : ∃ c, d0[k]? = some c := ⟨d0[k], List.getElem?_eq_getElem hlt⟩
        have hcd := l4 c (List.mem_of_getElem? hc)
        have hr : iget ((((subK d0 k).map byteRow).take d0.length).drop 0) (k : Int) = some (byteRow c) := iget_sl (by rw [Nat.zero_add, List.getElem?_map, subK_get hc]; rfl) (by omega)
        have hr2 : ((subK d0 k).map byteRow)[0 + ((k : Int)).toNat]? = some (byteRow c) := by rw [Int.toNat_natCast, Nat.zero_add, List.getElem?_map, subK_get hc]; rfl
        repeat' (first
          | (refine vb_t rfl ?_; conv => whnf)
          | (refine vb_f rfl ?_; conv => whnf)
          | (refine vb_t (by assumption) ?_; conv => whnf)
          | (refine vb_f (by assumption) ?_; conv => whnf)
          | (refine vo_i hr ?_; conv => whnf)
          | (refine vo_i hr2 ?_; conv => whnf)
          | fail)
        refine ⟨⟨k + 1, hlt⟩, by simp only; omega, cons_eq rfl (cons_eq rfl (cons_eq rfl (cons_eq rfl (cons_eq rfl (cons_eq rfl (cons_eq (slot_eq (I_eq (iadd_one (i := k) (by omega)))) rfl)))))), cons_eq rfl (cons_eq (arr_eq ?_) rfl), rfl, rfl⟩
        show ((subK d0 k).map byteRow).set (0 + ((k : Int)).toNat) [DV.int .u8 (isub .u8 (c.toNat : Int) (Int.ofNat 48))] = (subK d0 (k + 1)).map byteRow
        rw [Int.toNat_natCast, Nat.zero_add, ← subK_set hc, List.map_set, isub_dig hcd]
        have h9 := dgt_le hcd
        have : c.toNat - 48 < 256 := by have := c.toNat_lt; omega
        unfold dgt
        show _ = ((subK d0 k).map byteRow).set k [DV.int .u8 ((UInt8.ofNat (c.toNat - 48)).toNat : Int)]
        rw [of_dig this]
      · have hk2 : k = d0.length := by (first | omega | (simp only [ilt_t, ilt_f, ile_t, ile_f, ieq_t, ieq_f, ofn, List.length_map, Bool.not_eq_true', Bool.not_eq_false'] at *; omega))
        have hsub : subK d0 k = d0.map dgt := by unfold subK; rw [hk2, List.take_length, List.drop_length, List.append_nil]
        have hd : ((((subK d0 k).map byteRow).take d0.length).drop 0) = (d0.map dgt).map byteRow := by rw [List.drop_zero, List.take_of_length_le (by rw [List.length_map, subK_len]; exact Nat.le_refl _), hsub]
        obtain ⟨x, hx, hx1, hx2⟩ := scaledX_ok (d0.map dgt) ((numP s).whole.length + expV (numP s).exp) sc (by omega) (by omega) (by rw [List.length_map]; omega) (dgs_ok l4) (by omega) (by omega)
        rw [List.length_map, hlen] at hx1 hx2
        obtain ⟨N, hN⟩ : ∃ N, rndN (valD (d0.map dgt) * sc) (((numP s).part.length : Int) - expV (numP s).exp) = N := ⟨_, rfl⟩
        rw [hN] at hx1 hx2 hV
        have e1 : iadd .i64 ((numP s).whole.length : Int) (expV (numP s).exp) = ((numP s).whole.length : Int) + expV (numP s).exp := iadd64 (by omega) (by omega)
        obtain ⟨x1, x2⟩ := x
        have hx1 : x2 = decide (N ≤ 68719476736) := hx1
        by_cases hM : N ≤ 68719476736
        · rw [decide_eq_true hM] at hx1
          subst hx1
          have hx3 : x1 = (N : Int) := hx2 rfl
          subst hx3
          rw [if_pos hM] at hV
          repeat' (first
            | (refine vb_t rfl ?_; conv => whnf)
            | (refine vb_f rfl ?_; conv => whnf)
            | (refine vb_t (by assumption) ?_; conv => whnf)
            | (refine vb_f (by assumption) ?_; conv => whnf)
            | (refine vpur_i (exponentX_ok (numP s) (by omega)) ?_; conv => whnf)
            | (rw [hd]; conv => whnf)
            | (rw [e1]; conv => whnf)
            | (refine vpur_i hx ?_; conv => whnf)
            | fail)
          cases hb : (numP s).below with
          | true =>
            rw [hb, if_pos rfl] at hV
            subst hV
            repeat' (first
              | (refine vb_t rfl ?_; conv => whnf)
              | (refine vb_f rfl ?_; conv => whnf)
              | (refine vb_t (by assumption) ?_; conv => whnf)
              | (refine vb_f (by assumption) ?_; conv => whnf)
              | fail)
            refine ⟨?_, rfl⟩
            show CR.ret (.tup [I (isub .i64 0 (N : Int)), I 0]) = CR.ret (.tup [I (-(N : Int)), I 0])
            rw [isub64 (by omega) (by omega), Int.zero_sub]
          | false =>
            rw [hb, if_neg (by decide)] at hV
            subst hV
            repeat' (first
              | (refine vb_t rfl ?_; conv => whnf)
              | (refine vb_f rfl ?_; conv => whnf)
              | (refine vb_t (by assumption) ?_; conv => whnf)
              | (refine vb_f (by assumption) ?_; conv => whnf)
              | fail)
            exact ⟨rfl, rfl⟩
        · rw [decide_eq_false hM] at hx1
          subst hx1
          rw [if_neg hM] at hV
          subst hV
          repeat' (first
            | (refine vb_t rfl ?_; conv => whnf)
            | (refine vb_f rfl ?_; conv => whnf)
            | (refine vb_t (by assumption) ?_; conv => whnf)
            | (refine vb_f (by assumption) ?_; conv => whnf)
            | (refine vpur_i (exponentX_ok (numP s) (by omega)) ?_; conv => whnf)
            | (rw [hd]; conv => whnf)
            | (rw [e1]; conv => whnf)
            | (refine vpur_i hx ?_; conv => whnf)
            | fail)
          exact ⟨rfl, rfl⟩
  · have q3 : (!ieq ((numP s).stop : Int) (s.length : Int)) = true := by rw [ieq_f.mpr (by omega)]; rfl
    rw [if_pos (.inr (.inl h1))] at hV
    subst hV
    repeat' (first
      | (refine vb_t rfl ?_; conv => whnf)
      | (refine vb_f rfl ?_; conv => whnf)
      | (refine vb_t (by assumption) ?_; conv => whnf)
      | (refine vb_f (by assumption) ?_; conv => whnf)
      | fail)
    exact ⟨rfl, rfl⟩
end Go.Proofs.YtjjolfgpphjhkaaGreatDoor.Ab
/- Layer 2 (number), the reference: digits, signs, exponents. -/
namespace Go.Proofs.YtjjolfgpphjhkaaGreatDoor.Ab
open Go
set_option linter.unusedSimpArgs false
set_option maxRecDepth 100000
set_option linter.unusedVariables false
set_option maxHeartbeats 4000000

theorem rdigit_ok (c : UInt8) : Pur F0 57 [.d (.int .u8 c.toNat)] [] .no (.ret (B (isDig c))) .no := by
  refine pur_code code57_ok ?_
  conv => whnf
  repeat' (first
    | (refine vb_t rfl ?_; conv => whnf)
    | (refine vb_f rfl ?_; conv => whnf)
    | (refine vb_t (by assumption) ?_; conv => whnf)
    | (refine vb_f (by assumption) ?_; conv => whnf)
    | (refine vb_i (fun h => ?_) (fun h => ?_) <;> conv => whnf)
    | fail)
  all_goals refine ⟨congrArg CR.ret (congrArg AV.d (congrArg DV.bool ?_)), rfl⟩
  all_goals simp only [ile_d, ofn, decide_eq_true_eq, decide_eq_false_iff_not] at *
  all_goals (unfold isDig; rw [Bool.eq_iff_iff]; simp; omega)
theorem iaddN {a b : Nat} (h : a + b ≤ 9223372036854775807) : iadd .i64 (a : Int) (b : Int) = ((a + b : Nat) : Int) := by rw [iadd64 (by omega) (by omega)]; omega
theorem rdigits_ok (s : List UInt8) (i : Nat) (hi : i ≤ 1000000) (hs : s.length ≤ 1000000) : Pur F0 86 [S s, I (i : Int)] [] .no (.ret (I (digN s i : Nat))) .no := by
  refine pur_code code86_ok ?_
  conv => whnf
  refine vloop_eq2 (fr' := [(0, S s), (1, I (i : Int)), (4, I 0), (5, I ((0 : Nat) : Int))]) rfl rfl ?_
  refine vloop_by (σ := { k : Nat // i + k ≤ i + s.length ∧ k + digN s (i + k) = digN s i }) (fun k => [(0, S s), (1, I (i : Int)), (4, I 0), (5, I (k.1 : Int))]) (fun _ => []) (fun k => s.length - k.1) ?_ ⟨0, by omega, by rw [Nat.zero_add, Nat.add_zero]⟩
  rintro ⟨k, hk, hd⟩
  have e1 : iadd .i64 (i : Int) (k : Int) = ((i + k : Nat) : Int) := iaddN (by omega)
  conv => whnf
  by_cases hlt : i + k < s.length
  · have q1 : ilt (iadd .i64 (i : Int) (k : Int)) (s.length : Int) = true := by rw [e1, ilt_t]; omega
    obtain ⟨c, hc⟩ : ∃ c, s[i + k]? = some c := ⟨s[i + k], List.getElem?_eq_getElem hlt⟩
    have hg : iget s (iadd .i64 (i : Int) (k : Int)) = some c := by rw [e1]; exact iget_t hc
    by_cases hdig : isDig c = true
    · repeat' (first
        | (refine vb_t rfl ?_; conv => whnf)
        | (refine vb_f rfl ?_; conv => whnf)
        | (refine vb_t (by assumption) ?_; conv => whnf)
        | (refine vb_f (by assumption) ?_; conv => whnf)
        | (refine vo_i hg ?_; conv => whnf)
        | (refine vpur_i (rdigit_ok c) ?_; conv => whnf)
        | fail)
      have h1 := digN_succ hc hdig
      refine ⟨⟨k + 1, by omega, by show k + 1 + digN s (i + k + 1) = digN s i; omega⟩, by simp only; omega, cons_eq rfl (cons_eq rfl (cons_eq rfl (cons_eq (slot_eq (I_eq (iadd_one (i := k) (by omega)))) rfl))), rfl, rfl, rfl⟩
    · have hdig : isDig c = false := by simpa using hdig
      repeat' (first
        | (refine vb_t rfl ?_; conv => whnf)
        | (refine vb_f rfl ?_; conv => whnf)
        | (refine vb_t (by assumption) ?_; conv => whnf)
        | (refine vb_f (by assumption) ?_; conv => whnf)
        | (refine vo_i hg ?_; conv => whnf)
        | (refine vpur_i (rdigit_ok c) ?_; conv => whnf)
        | fail)
      rw [digN_zero hc hdig] at hd
      exact ⟨congrArg CR.ret (I_eq (by show (k : Int) = _; rw [← hd]; rfl)), by trivial⟩
  · have q1 : ilt (iadd .i64 (i : Int) (k : Int)) (s.length : Int) = false := by rw [e1, ilt_f]; omega
    repeat' (first
      | (refine vb_t rfl ?_; conv => whnf)
      | (refine vb_f rfl ?_; conv => whnf)
      | (refine vb_t (by assumption) ?_; conv => whnf)
      | (refine vb_f (by assumption) ?_; conv => whnf)
      | fail)
    rw [digN_end (by omega)] at hd
    exact ⟨congrArg CR.ret (I_eq (by show (k : Int) = _; rw [← hd]; rfl)), by trivial⟩
def sgn1 (s : List UInt8) (i : Nat) : Nat := if sgn s i = true then 1 else 0
theorem rsign_ok (s : List UInt8) (i : Nat) : Pur F0 85 [S s, I (i : Int)] [] .no (.ret (I (sgn1 s i : Nat))) .no := by
  by_cases hi : i < s.length
  · obtain ⟨c, hc⟩ : ∃ c, s[i]? = some c := ⟨s[i], List.getElem?_eq_getElem hi⟩
    have hg : iget s (i : Int) = some c := iget_t hc
    have hlt : ilt (i : Int) (s.length : Int) = true := by rw [ilt_t]; omega
    refine pur_code code85_ok ?_
    conv => whnf
    by_cases h1 : c = 43
    · have q1 : ieq (c.toNat : Int) (Int.ofNat 43) = true := ieq_c 43 rfl h1
      repeat' (first
        | (refine vb_t rfl ?_; conv => whnf)
        | (refine vb_f rfl ?_; conv => whnf)
        | (refine vb_t (by assumption) ?_; conv => whnf)
        | (refine vb_f (by assumption) ?_; conv => whnf)
        | (refine vo_i hg ?_; conv => whnf)
        | fail)
      refine ⟨congrArg CR.ret (I_eq ?_), by trivial⟩
      unfold sgn1 sgn; rw [hc, h1]; rfl
    · have q1 : ieq (c.toNat : Int) (Int.ofNat 43) = false := ieq_nc 43 rfl h1
      by_cases h2 : c = 45
      · have q2 : ieq (c.toNat : Int) (Int.ofNat 45) = true := ieq_c 45 rfl h2
        repeat' (first
          | (refine vb_t rfl ?_; conv => whnf)
          | (refine vb_f rfl ?_; conv => whnf)
          | (refine vb_t (by assumption) ?_; conv => whnf)
          | (refine vb_f (by assumption) ?_; conv => whnf)
          | (refine vo_i hg ?_; conv => whnf)
          | fail)
        refine ⟨congrArg CR.ret (I_eq ?_), by trivial⟩
        unfold sgn1 sgn; rw [hc, h2]; rfl
      · have q2 : ieq (c.toNat : Int) (Int.ofNat 45) = false := ieq_nc 45 rfl h2
        repeat' (first
          | (refine vb_t rfl ?_; conv => whnf)
          | (refine vb_f rfl ?_; conv => whnf)
          | (refine vb_t (by assumption) ?_; conv => whnf)
          | (refine vb_f (by assumption) ?_; conv => whnf)
          | (refine vo_i hg ?_; conv => whnf)
          | fail)
        refine ⟨congrArg CR.ret (I_eq ?_), by trivial⟩
        unfold sgn1 sgn; rw [hc, if_neg]
        · rfl
        · simp [h1, h2]
  · have hc : s[i]? = none := List.getElem?_eq_none (by omega)
    have hlt : ilt (i : Int) (s.length : Int) = false := by rw [ilt_f]; omega
    refine pur_code code85_ok ?_
    conv => whnf
    repeat' (first
      | (refine vb_t rfl ?_; conv => whnf)
      | (refine vb_f rfl ?_; conv => whnf)
      | (refine vb_t (by assumption) ?_; conv => whnf)
      | (refine vb_f (by assumption) ?_; conv => whnf)
      | fail)
    refine ⟨congrArg CR.ret (I_eq ?_), by trivial⟩
    unfold sgn1 sgn; rw [hc]; rfl
theorem rexp_ok (s : List UInt8) (a : Nat) (ha : 0 < a) (hal : a < s.length) (hs : s.length ≤ 1000000) (hd : ∀ j c, a + sgn1 s a ≤ j → s[j]? = some c → isDig c = true) :
    Pur F0 60 [S s, I (a : Int)] [] .no (.ret (I (expV (s.drop a)))) .no := by
  have q0 : ieq (a : Int) (Int.ofNat 0) = false := by rw [ieq_f, ofn]; omega
  have hs1 : sgn1 s a ≤ 1 := by unfold sgn1; split <;> omega
  have e0 : iadd .i64 (a : Int) (sgn1 s a : Int) = ((a + sgn1 s a : Nat) : Int) := iaddN (by omega)
  obtain ⟨c0, hc0⟩ : ∃ c, s[a]? = some c := ⟨s[a], List.getElem?_eq_getElem hal⟩
  have hg0 : iget s (a : Int) = some c0 := iget_t hc0
  have hstart : expD ((s.drop a).take (sgn1 s a)) = 0 := by
    unfold sgn1
    split
    · rename_i h
      rw [List.drop_eq_getElem_cons hal]
      have h2 : s[a] = c0 := (List.getElem?_eq_some_iff.1 hc0).2
      rw [h2, List.take_succ_cons, List.take_zero]
      unfold sgn at h
      rw [hc0] at h
      have h3 : c0 = 43 ∨ c0 = 45 := by simpa using h
      rcases h3 with rfl | rfl <;> rfl
    · rfl
  refine pur_code code60_ok ?_
  conv => whnf
  repeat' (first
    | (refine vb_t rfl ?_; conv => whnf)
    | (refine vb_f rfl ?_; conv => whnf)
    | (refine vb_t (by assumption) ?_; conv => whnf)
    | (refine vb_f (by assumption) ?_; conv => whnf)
    | (refine vpur_i (rsign_ok s a) ?_; conv => whnf)
    | fail)
  refine vloop_eq2 (fr' := [(0, S s), (1, I (a : Int)), (4, I (Int.ofNat 0)), (5, I ((expD ((s.drop a).take (sgn1 s a)) : Nat) : Int)), (6, I ((a + sgn1 s a : Nat) : Int))]) (cons_eq rfl (cons_eq rfl (cons_eq rfl (cons_eq (slot_eq (I_eq (by rw [hstart]; rfl))) (cons_eq (slot_eq (I_eq e0)) rfl))))) rfl ?_
  refine vloop_by (σ := { k : Nat // sgn1 s a ≤ k ∧ a + k ≤ s.length + 1 }) (fun k => [(0, S s), (1, I (a : Int)), (4, I (Int.ofNat 0)), (5, I ((expD ((s.drop a).take k.1) : Nat) : Int)), (6, I ((a + k.1 : Nat) : Int))]) (fun _ => []) (fun k => s.length - (a + k.1)) ?_ ⟨sgn1 s a, Nat.le_refl _, by omega⟩
  rintro ⟨k, hk, hk2⟩
  conv => whnf
  refine vb_i (fun h => ?_) (fun h => ?_) <;> conv => whnf
  · have hlt : a + k < s.length := by (first | omega | (simp only [ilt_t, ilt_f, ile_t, ile_f, ieq_t, ieq_f, ofn, List.length_map, Bool.not_eq_true', Bool.not_eq_false'] at *; omega))
    obtain ⟨c, hc⟩ : ∃ c, s[a + k]? = some c := ⟨s[a + k], List.getElem?_eq_getElem hlt⟩
    have hg : iget s ((a + k : Nat) : Int) = some c := iget_t hc
    have hdc := hd (a + k) c (by omega) hc
    have hdc2 := hdc
    simp only [isDig, Bool.and_eq_true, decide_eq_true_eq] at hdc2
    have hle := expD_le ((s.drop a).take k)
    have hnext : expD ((s.drop a).take (k + 1)) = expS (expD ((s.drop a).take k)) c := by
      have : (s.drop a)[k]? = some c := by rw [List.getElem?_drop]; exact hc
      unfold expD
      rw [List.take_add_one, this, List.foldl_append]; rfl
    obtain ⟨n, hn⟩ : ∃ n, expD ((s.drop a).take k) = n := ⟨_, rfl⟩
    rw [hn] at hle hnext
    repeat' (first
      | (refine vb_t rfl ?_; conv => whnf)
      | (refine vb_f rfl ?_; conv => whnf)
      | (refine vb_t (by assumption) ?_; conv => whnf)
      | (refine vb_f (by assumption) ?_; conv => whnf)
      | (refine vo_i hg ?_; conv => whnf)
      | fail)
    refine ⟨⟨k + 1, by omega, by omega⟩, by simp only; omega, cons_eq rfl (cons_eq rfl (cons_eq rfl (cons_eq (slot_eq (I_eq ?_)) (cons_eq (slot_eq (I_eq (iadd_one (i := a + k) (by omega)))) rfl)))), rfl, rfl, rfl⟩
    show imin (Int.ofNat 1000) (iadd .i64 (imul .i64 (Int.ofNat 10) ((expD ((s.drop a).take k) : Nat) : Int)) (icast .i64 (isub .u8 (c.toNat : Int) (Int.ofNat 48)))) = ((expD ((s.drop a).take (k + 1)) : Nat) : Int)
    rw [hn, hnext, isub_dig hdc, ofn, ofn, imul64 (by omega) (by omega), icast64 (by omega) (by omega), iadd64 (by omega) (by omega), imin_d]
    unfold expS; rw [if_pos hdc]
    split <;> omega
  · have hk3 : s.length ≤ a + k := by (first | omega | (simp only [ilt_t, ilt_f, ile_t, ile_f, ieq_t, ieq_f, ofn, List.length_map, Bool.not_eq_true', Bool.not_eq_false'] at *; omega))
    have hT : (s.drop a).take k = s.drop a := List.take_of_length_le (by rw [List.length_drop]; omega)
    have hle := expD_le (s.drop a)
    have h0 : (s.drop a)[0]? = some c0 := by rw [List.getElem?_drop]; exact hc0
    by_cases h45 : c0 = 45
    · have q5 : ieq (c0.toNat : Int) (Int.ofNat 45) = true := ieq_c 45 rfl h45
      repeat' (first
        | (refine vb_t rfl ?_; conv => whnf)
        | (refine vb_f rfl ?_; conv => whnf)
        | (refine vb_t (by assumption) ?_; conv => whnf)
        | (refine vb_f (by assumption) ?_; conv => whnf)
        | (refine vo_i hg0 ?_; conv => whnf)
        | fail)
      refine ⟨congrArg CR.ret (I_eq ?_), by trivial⟩
      show isub .i64 (Int.ofNat 0) ((expD ((s.drop a).take k) : Nat) : Int) = _
      unfold expV
      rw [hT, h0, h45, if_pos rfl, ofn, isub64 (by omega) (by omega)]; omega
    · have q5 : ieq (c0.toNat : Int) (Int.ofNat 45) = false := ieq_nc 45 rfl h45
      repeat' (first
        | (refine vb_t rfl ?_; conv => whnf)
        | (refine vb_f rfl ?_; conv => whnf)
        | (refine vb_t (by assumption) ?_; conv => whnf)
        | (refine vb_f (by assumption) ?_; conv => whnf)
        | (refine vo_i hg0 ?_; conv => whnf)
        | fail)
      refine ⟨congrArg CR.ret (I_eq ?_), by trivial⟩
      show ((expD ((s.drop a).take k) : Nat) : Int) = _
      unfold expV
      rw [hT, h0, if_neg (fun h => h45 (Option.some.inj h))]
theorem rexp0_ok (s : List UInt8) : Pur F0 60 [S s, I (Int.ofNat 0)] [] .no (.ret (I 0)) .no := by
  refine pur_code code60_ok ?_
  conv => whnf
  have q0 : ieq (Int.ofNat 0) (Int.ofNat 0) = true := by rw [ieq_t]
  repeat' (first
    | (refine vb_t rfl ?_; conv => whnf)
    | (refine vb_f rfl ?_; conv => whnf)
    | (refine vb_t (by assumption) ?_; conv => whnf)
    | (refine vb_f (by assumption) ?_; conv => whnf)
    | fail)
  exact ⟨by trivial, by trivial⟩
end Go.Proofs.YtjjolfgpphjhkaaGreatDoor.Ab
/- Layer 2 (number), the reference: digits the last one first: the plain law of them. -/
namespace Go.Proofs.YtjjolfgpphjhkaaGreatDoor.Ab
open Go
set_option linter.unusedSimpArgs false
set_option maxRecDepth 100000
set_option linter.unusedVariables false
set_option maxHeartbeats 4000000

/-- Digits, the last one first. -/
def valR : List Nat → Nat
  | [] => 0
  | c :: l => c + 10 * valR l
def digR (l : List Nat) : Prop := ∀ c ∈ l, c ≤ 9
theorem valR_append : ∀ a b : List Nat, valR (a ++ b) = valR a + 10 ^ a.length * valR b
  | [], b => by simp [valR]
  | c :: a, b => by
    have h := valR_append a b
    simp only [List.cons_append, valR, h, List.length_cons, Nat.pow_succ]
    rw [Nat.mul_add, ← Nat.mul_assoc, Nat.mul_comm 10 (10 ^ a.length)]
    omega
theorem valR_lt : ∀ l : List Nat, digR l → valR l < 10 ^ l.length
  | [], _ => by simp [valR]
  | c :: l, h => by
    have h1 := valR_lt l fun x hx => h x (List.mem_cons_of_mem _ hx)
    have h2 := h c (List.mem_cons_self ..)
    simp only [valR, List.length_cons, Nat.pow_succ]
    omega
theorem valR_rev : ∀ l : List UInt8, valR (l.map UInt8.toNat).reverse = valD l
  | [] => rfl
  | c :: l => by
    have h := valR_rev l
    rw [List.map_cons, List.reverse_cons, valR_append, h]
    simp only [valR, valD, List.length_reverse, List.length_map, Nat.mul_zero, Nat.add_zero]
    rw [Nat.mul_comm]; omega
theorem digR_drop {l : List Nat} (h : digR l) (k : Nat) : digR (l.drop k) := fun c hc => h c (List.mem_of_mem_drop hc)
theorem valR_drop : ∀ (l : List Nat) (k : Nat), digR l → valR (l.drop k) = valR l / 10 ^ k
  | l, 0, h => by simp
  | [], k + 1, h => by simp [valR]
  | c :: l, k + 1, h => by
    have h1 := valR_drop l k fun x hx => h x (List.mem_cons_of_mem _ hx)
    have h2 := h c (List.mem_cons_self ..)
    rw [List.drop_succ_cons, h1, valR, Nat.pow_succ, Nat.mul_comm (10 ^ k) 10, ← Nat.div_div_eq_div_mul]
    congr 1; omega
theorem valR_get {l : List Nat} {k c : Nat} (h : digR l) (hk : l[k]? = some c) : valR l / 10 ^ k % 10 = c := by
  rw [← valR_drop l k h]
  have hl := (List.getElem?_eq_some_iff.1 hk).1
  rw [List.drop_eq_getElem_cons hl, (List.getElem?_eq_some_iff.1 hk).2]
  have := h c (List.mem_of_getElem? hk)
  simp only [valR]; omega
theorem valR_over {l : List Nat} {k : Nat} (h : digR l) (hk : l.length ≤ k) : valR l / 10 ^ k = 0 :=
  Nat.div_eq_of_lt (Nat.lt_of_lt_of_le (valR_lt l h) (Nat.pow_le_pow_right (by decide) hk))
theorem valR_snoc (l : List Nat) (c : Nat) : valR (l ++ [c]) = valR l + 10 ^ l.length * c := by rw [valR_append]; simp [valR]
/-- What rounding comes to, kept small. -/
def capM (x : Nat) : Nat := min 68719476737 x
def rndM (X : Nat) (behind : Int) : Nat :=
  if behind ≤ 0 then capM (X * 10 ^ (-behind).toNat)
  else capM (X / 10 ^ behind.toNat) + (if 5 ≤ X / 10 ^ (behind.toNat - 1) % 10 then 1 else 0)
theorem capM_step (x c : Nat) : min 68719476737 (10 * capM x + c) = capM (10 * x + c) := by unfold capM; omega
theorem rndM_le {X : Nat} {b : Int} : (rndM X b ≤ 68719476736) = (rndN X b ≤ 68719476736) := by
  unfold rndM rndN capM
  split
  · generalize X * 10 ^ (-b).toNat = y; rw [eq_iff_iff]; omega
  · generalize X / 10 ^ b.toNat = y
    generalize (if 5 ≤ X / 10 ^ (b.toNat - 1) % 10 then 1 else 0) = z
    rw [eq_iff_iff]; omega
theorem rndM_eq {X : Nat} {b : Int} (h : rndN X b ≤ 68719476736) : rndM X b = rndN X b := by
  unfold rndM rndN capM at *
  by_cases hb : b ≤ 0
  · simp only [if_pos hb] at *
    generalize X * 10 ^ (-b).toNat = y at *; omega
  · simp only [if_neg hb] at *
    generalize X / 10 ^ b.toNat = y at *
    generalize (if 5 ≤ X / 10 ^ (b.toNat - 1) % 10 then 1 else 0) = z at *
    omega
theorem rndM_lt (X : Nat) (b : Int) : rndM X b ≤ 68719476738 := by
  unfold rndM capM
  split
  · omega
  · split <;> omega
/-! A list of numbers, and one that is built from nothing. -/
def natRow (n : Nat) : List DV := [.int .i64 (n : Int)]
def natsV : Option (Nat × List Nat) → AV
  | none => .d .nilsl
  | some (g, l) => .osl 0 g 0 l.length
def natsH (o : Own) (ty : Nat) : Option (Nat × List Nat) → Heap
  | none => []
  | some (g, l) => [⟨o, ty, .arr true g 1 (l.map natRow)⟩]
def nats : Option (Nat × List Nat) → List Nat
  | none => []
  | some (_, l) => l
/-- A list of numbers, as data. -/
def natsA (l : List Nat) (v : DV) : Prop := (v = .nilsl ∧ l = []) ∨ v = .sl 1 (l.map natRow)
end Go.Proofs.YtjjolfgpphjhkaaGreatDoor.Ab
/- Layer 2 (number), the reference: the parts of a number's text; scaled; rounded. -/
namespace Go.Proofs.YtjjolfgpphjhkaaGreatDoor.Ab
open Go
set_option linter.unusedSimpArgs false
set_option maxRecDepth 100000
set_option linter.unusedVariables false
set_option maxHeartbeats 4000000

theorem sgnN_1 (s : List UInt8) (i : Nat) : i + sgn1 s i = sgnN s i := by unfold sgnN sgn1; split <;> rfl
theorem rsign' (s : List UInt8) {x : Int} {i n : Nat} (hx : x = (i : Int)) (hn : sgn1 s i = n) : Pur F0 85 [S s, I x] [] .no (.ret (I (n : Nat))) .no := by subst hx hn; exact rsign_ok s i
theorem rdigits' (s : List UInt8) {x : Int} {i : Nat} (hx : x = (i : Int)) (hi : i ≤ 1000000) (hs : s.length ≤ 1000000) : Pur F0 86 [S s, I x] [] .no (.ret (I (digN s i : Nat))) .no := by subst hx; exact rdigits_ok s i hi hs
/-- Where the exponent stands; 0: there is none. -/
def rpX (s : List UInt8) : Nat := if pIsE s = true ∧ digs s (pX s) ≠ [] then pE s + 1 else 0
def rpT (s : List UInt8) : List AV := if digs s (pA s) = [] ∧ pP s = [] then [I 0, I 0, I 0, I 0, I 0] else [I (pA s : Int), I (digN s (pA s) : Int), I ((pP s).length : Int), I (rpX s : Int), I ((numP s).stop : Int)]
theorem five_eq {a b c d e a' b' c' d' e' : Int} (h1 : a = a') (h2 : b = b') (h3 : c = c') (h4 : d = d') (h5 : e = e') : CR.ret (.tup [I a, I b, I c, I d, I e]) = CR.ret (.tup [I a', I b', I c', I d', I e']) := by rw [h1, h2, h3, h4, h5]
theorem pP_le (s : List UInt8) : (pP s).length ≤ s.length := by
  unfold pP; split
  · exact digs_le2 _ _
  · exact Nat.zero_le _
theorem rparts_ok (s : List UInt8) (hs : s.length ≤ 100000) : Pur F0 56 [S s] [] .no (.ret (.tup (rpT s))) .no := by
  have hA : sgn1 s 0 = pA s := by rw [← Nat.zero_add (sgn1 s 0), sgnN_1]; rfl
  have a1 : pA s ≤ s.length := by
    unfold pA sgnN sgn
    cases s with
    | nil => simp
    | cons => split <;> simp
  have a2 : pW s ≤ s.length := digN_le s _ a1
  have hs : s.length ≤ 1000000 := by omega
  have e1 : iadd .i64 (pA s : Int) (digN s (pA s) : Int) = ((pW s : Nat) : Int) := iaddN (by unfold pW at a2; omega)
  refine pur_code code56_ok ?_
  conv => whnf
  repeat' (first
    | (refine vb_t rfl ?_; conv => whnf)
    | (refine vb_f rfl ?_; conv => whnf)
    | (refine vb_t (by assumption) ?_; conv => whnf)
    | (refine vb_f (by assumption) ?_; conv => whnf)
    | (refine vpur_i (rsign' s (i := 0) rfl hA) ?_; conv => whnf)
    | (refine vpur_i (rdigits_ok s (pA s) (by omega) hs) ?_; conv => whnf)
    | fail)
  by_cases hd : pDot s = true
  · have hc : s[pW s]? = some 46 := by simpa [pDot] using hd
    have hl : pW s < s.length := (List.getElem?_eq_some_iff.1 hc).1
    have hg : iget s (iadd .i64 (pA s : Int) (digN s (pA s) : Int)) = some 46 := by rw [e1]; exact iget_t hc
    have hlt : ilt (iadd .i64 (pA s : Int) (digN s (pA s) : Int)) (s.length : Int) = true := by rw [e1, ilt_t]; omega
    have he : ieq (((46 : UInt8).toNat : Nat) : Int) (Int.ofNat 46) = true := by rw [ieq_t]; rfl
    have hP : pP s = digs s (pW s + 1) := by unfold pP; rw [if_pos hd]
    have hPN : (pP s).length = digN s (pW s + 1) := by rw [hP]; rfl
    have hD : digN s (pW s + 1) ≤ s.length := by have := digs_le2 s (pW s + 1); rw [digs_len] at this; exact this
    have e2 : iadd .i64 (iadd .i64 (pA s : Int) (digN s (pA s) : Int)) (Int.ofNat 1) = ((pW s + 1 : Nat) : Int) := by rw [e1]; exact iadd_one (by omega)
    have hp : (digN s (pW s + 1) : Int) = ((pP s).length : Int) := by rw [hPN]
    by_cases hn : digs s (pW s + 1) = []
    · have hn0 : digN s (pW s + 1) = 0 := by rw [← digs_len, hn]; rfl
      have q2 : ilt (Int.ofNat 0) (digN s (pW s + 1) : Int) = false := by rw [ilt_f, hn0]; decide
      have hE : pE s = pW s := by unfold pE; rw [if_pos (hP.trans hn)]
      have hr : iadd .i64 (pA s : Int) (digN s (pA s) : Int) = ((pE s : Nat) : Int) := by rw [e1, hE]
      repeat' (first
        | (refine vb_t rfl ?_; conv => whnf)
        | (refine vb_f rfl ?_; conv => whnf)
        | (refine vb_t (by assumption) ?_; conv => whnf)
        | (refine vb_f (by assumption) ?_; conv => whnf)
        | (refine vo_i hg ?_; conv => whnf)
        | (refine vpur_i (rdigits' s e2 (by omega) hs) ?_; conv => whnf)
        | fail)
      by_cases hb : digs s (pA s) = [] ∧ pP s = []
      · have hw0 : digN s (pA s) = 0 := by rw [← digs_len, hb.1]; rfl
        have hp0 : (pP s).length = 0 := by rw [hb.2]; rfl
        have eq1 : iadd .i64 (digN s (pA s) : Int) ((digN s (pW s + 1) : Int)) = ((0 : Nat) : Int) := by rw [hp, hw0, hp0, iaddN (by decide)]
        have q1 : ieq (iadd .i64 (digN s (pA s) : Int) ((digN s (pW s + 1) : Int))) (Int.ofNat 0) = true := by rw [ieq_t, eq1]; rfl
        have hT : rpT s = [I 0, I 0, I 0, I 0, I 0] := by unfold rpT; rw [if_pos hb]
        rw [hT]
        repeat' (first
          | (refine vb_t rfl ?_; conv => whnf)
          | (refine vb_f rfl ?_; conv => whnf)
          | (refine vb_t (by assumption) ?_; conv => whnf)
          | (refine vb_f (by assumption) ?_; conv => whnf)
          | fail)
        exact ⟨rfl, rfl⟩
      have hT : rpT s = [I (pA s : Int), I (digN s (pA s) : Int), I ((pP s).length : Int), I (rpX s : Int), I ((numP s).stop : Int)] := by unfold rpT; rw [if_neg hb]
      have hWl : digN s (pA s) ≤ s.length := by have := digs_le2 s (pA s); rw [digs_len] at this; exact this
      have hPl := pP_le s
      have eq1 : iadd .i64 (digN s (pA s) : Int) ((digN s (pW s + 1) : Int)) = ((digN s (pA s) + (pP s).length : Nat) : Int) := by rw [hp, iaddN (by omega)]
      have q1 : ieq (iadd .i64 (digN s (pA s) : Int) ((digN s (pW s + 1) : Int))) (Int.ofNat 0) = false := by
        rw [ieq_f, eq1, ofn]
        intro h
        have h0 : digN s (pA s) = 0 ∧ (pP s).length = 0 := by omega
        exact hb ⟨List.length_eq_zero_iff.1 (by rw [digs_len]; exact h0.1), List.length_eq_zero_iff.1 h0.2⟩
      rw [hT]
      by_cases hx : pE s < s.length
      · obtain ⟨c, hce⟩ : ∃ c, s[pE s]? = some c := ⟨s[pE s], List.getElem?_eq_getElem hx⟩
        have hlx : ilt (iadd .i64 (pA s : Int) (digN s (pA s) : Int)) (s.length : Int) = true := by rw [hr, ilt_t]; omega
        have hgx : iget s (iadd .i64 (pA s : Int) (digN s (pA s) : Int)) = some c := by rw [hr]; exact iget_t hce
        by_cases hE1 : c = 101 ∨ c = 69
        · have h1 : pIsE s = true := by unfold pIsE; rw [hce]; rcases hE1 with rfl | rfl <;> rfl
          have hi1 : iadd .i64 (iadd .i64 (pA s : Int) (digN s (pA s) : Int)) (Int.ofNat 1) = ((pE s + 1 : Nat) : Int) := by rw [hr]; exact iadd_one (by omega)
          have hs1 : sgn1 s (pE s + 1) ≤ 1 := by unfold sgn1; split <;> omega
          have hi2 : iadd .i64 (iadd .i64 (iadd .i64 (pA s : Int) (digN s (pA s) : Int)) (Int.ofNat 1)) (sgn1 s (pE s + 1) : Int) = ((pX s : Nat) : Int) := by rw [hi1, iaddN (by omega)]; unfold pX; rw [← sgnN_1]
          have hX : pX s ≤ s.length + 1 := by unfold pX; rw [← sgnN_1]; omega
          have hN : digN s (pX s) ≤ s.length := by have := digs_le2 s (pX s); rw [digs_len] at this; exact this
          have t1 : ieq (c.toNat : Int) (Int.ofNat 101) = true ∨ (ieq (c.toNat : Int) (Int.ofNat 101) = false ∧ ieq (c.toNat : Int) (Int.ofNat 69) = true) := by
            rcases hE1 with rfl | rfl
            · exact .inl (ieq_c (c := 101) (k := 101) 101 rfl rfl)
            · exact .inr ⟨ieq_nc (c := 69) (k := 101) 101 rfl (by decide), ieq_c (c := 69) (k := 69) 69 rfl rfl⟩
          by_cases hn : digs s (pX s) = []
          · have hn0 : digN s (pX s) = 0 := by rw [← digs_len, hn]; rfl
            have q3 : ilt (Int.ofNat 0) (digN s (pX s) : Int) = false := by rw [ilt_f, hn0]; decide
            have hfin := numP_n hb (.inr hn)
            have hXe : rpX s = 0 := by unfold rpX; rw [if_neg (fun h => h.2 hn)]
            rcases t1 with t1 | ⟨t1, t2⟩
            all_goals
              repeat' (first
                | (refine vb_t rfl ?_; conv => whnf)
                | (refine vb_f rfl ?_; conv => whnf)
                | (refine vb_t (by assumption) ?_; conv => whnf)
                | (refine vb_f (by assumption) ?_; conv => whnf)
                | (refine vo_i hgx ?_; conv => whnf)
                | (refine vpur_i (rsign' s hi1 rfl) ?_; conv => whnf)
                | (refine vpur_i (rdigits' s hi2 (by omega) hs) ?_; conv => whnf)
                | fail)
              exact ⟨five_eq rfl rfl hp (by rw [hXe]; rfl) (by rw [hfin]; exact hr), rfl⟩
          · have hn0 : digN s (pX s) ≠ 0 := fun h => hn (List.length_eq_zero_iff.1 (by rw [digs_len]; exact h))
            have q3 : ilt (Int.ofNat 0) (digN s (pX s) : Int) = true := by rw [ilt_t, ofn]; omega
            have hfin := numP_e hb h1 hn
            have hXe : rpX s = pE s + 1 := by unfold rpX; rw [if_pos ⟨h1, hn⟩]
            rcases t1 with t1 | ⟨t1, t2⟩
            all_goals
              repeat' (first
                | (refine vb_t rfl ?_; conv => whnf)
                | (refine vb_f rfl ?_; conv => whnf)
                | (refine vb_t (by assumption) ?_; conv => whnf)
                | (refine vb_f (by assumption) ?_; conv => whnf)
                | (refine vo_i hgx ?_; conv => whnf)
                | (refine vpur_i (rsign' s hi1 rfl) ?_; conv => whnf)
                | (refine vpur_i (rdigits' s hi2 (by omega) hs) ?_; conv => whnf)
                | fail)
              exact ⟨five_eq rfl rfl hp (by rw [hXe]; exact hi1) (by rw [hfin]; show iadd .i64 (iadd .i64 (iadd .i64 (iadd .i64 (pA s : Int) (digN s (pA s) : Int)) (Int.ofNat 1)) (sgn1 s (pE s + 1) : Int)) (digN s (pX s) : Int) = _; rw [hi2, iaddN (by omega)]), rfl⟩
        · have h1 : pIsE s = false := by
            unfold pIsE; rw [hce]; simp; exact ⟨fun e => hE1 (.inl e), fun e => hE1 (.inr e)⟩
          have t1 : ieq (c.toNat : Int) (Int.ofNat 101) = false := ieq_nc 101 rfl fun e => hE1 (.inl e)
          have t2 : ieq (c.toNat : Int) (Int.ofNat 69) = false := ieq_nc 69 rfl fun e => hE1 (.inr e)
          have hfin := numP_n hb (.inl h1)
          have hXe : rpX s = 0 := by unfold rpX; rw [if_neg (fun h => by rw [h1] at h; cases h.1)]
          repeat' (first
            | (refine vb_t rfl ?_; conv => whnf)
            | (refine vb_f rfl ?_; conv => whnf)
            | (refine vb_t (by assumption) ?_; conv => whnf)
            | (refine vb_f (by assumption) ?_; conv => whnf)
            | (refine vo_i hgx ?_; conv => whnf)
            | fail)
          exact ⟨five_eq rfl rfl hp (by rw [hXe]; rfl) (by rw [hfin]; exact hr), rfl⟩
      · try (exfalso; omega)
        all_goals
          have hlx : ilt (iadd .i64 (pA s : Int) (digN s (pA s) : Int)) (s.length : Int) = false := by rw [hr, ilt_f]; omega
          have h1 : pIsE s = false := by unfold pIsE; rw [List.getElem?_eq_none (by omega)]; rfl
          have hfin := numP_n hb (.inl h1)
          have hXe : rpX s = 0 := by unfold rpX; rw [if_neg (fun h => by rw [h1] at h; cases h.1)]
          repeat' (first
            | (refine vb_t rfl ?_; conv => whnf)
            | (refine vb_f rfl ?_; conv => whnf)
            | (refine vb_t (by assumption) ?_; conv => whnf)
            | (refine vb_f (by assumption) ?_; conv => whnf)
            | fail)
          exact ⟨five_eq rfl rfl hp (by rw [hXe]; rfl) (by rw [hfin]; exact hr), rfl⟩
    · have hn0 : digN s (pW s + 1) ≠ 0 := fun h => hn (List.length_eq_zero_iff.1 (by rw [digs_len]; exact h))
      have q2 : ilt (Int.ofNat 0) (digN s (pW s + 1) : Int) = true := by rw [ilt_t, ofn]; omega
      have hE : pE s = pW s + 1 + digN s (pW s + 1) := by unfold pE; rw [if_neg (by rw [hP]; exact hn), hP]; rfl
      have hr : iadd .i64 (iadd .i64 (iadd .i64 (pA s : Int) (digN s (pA s) : Int)) (Int.ofNat 1)) (digN s (pW s + 1) : Int) = ((pE s : Nat) : Int) := by rw [e2, hE, iaddN (by omega)]
      repeat' (first
        | (refine vb_t rfl ?_; conv => whnf)
        | (refine vb_f rfl ?_; conv => whnf)
        | (refine vb_t (by assumption) ?_; conv => whnf)
        | (refine vb_f (by assumption) ?_; conv => whnf)
        | (refine vo_i hg ?_; conv => whnf)
        | (refine vpur_i (rdigits' s e2 (by omega) hs) ?_; conv => whnf)
        | fail)
      by_cases hb : digs s (pA s) = [] ∧ pP s = []
      · have hw0 : digN s (pA s) = 0 := by rw [← digs_len, hb.1]; rfl
        have hp0 : (pP s).length = 0 := by rw [hb.2]; rfl
        have eq1 : iadd .i64 (digN s (pA s) : Int) ((digN s (pW s + 1) : Int)) = ((0 : Nat) : Int) := by rw [hp, hw0, hp0, iaddN (by decide)]
        have q1 : ieq (iadd .i64 (digN s (pA s) : Int) ((digN s (pW s + 1) : Int))) (Int.ofNat 0) = true := by rw [ieq_t, eq1]; rfl
        have hT : rpT s = [I 0, I 0, I 0, I 0, I 0] := by unfold rpT; rw [if_pos hb]
        rw [hT]
        repeat' (first
          | (refine vb_t rfl ?_; conv => whnf)
          | (refine vb_f rfl ?_; conv => whnf)
          | (refine vb_t (by assumption) ?_; conv => whnf)
          | (refine vb_f (by assumption) ?_; conv => whnf)
          | fail)
        exact ⟨rfl, rfl⟩
      have hT : rpT s = [I (pA s : Int), I (digN s (pA s) : Int), I ((pP s).length : Int), I (rpX s : Int), I ((numP s).stop : Int)] := by unfold rpT; rw [if_neg hb]
      have hWl : digN s (pA s) ≤ s.length := by have := digs_le2 s (pA s); rw [digs_len] at this; exact this
      have hPl := pP_le s
      have eq1 : iadd .i64 (digN s (pA s) : Int) ((digN s (pW s + 1) : Int)) = ((digN s (pA s) + (pP s).length : Nat) : Int) := by rw [hp, iaddN (by omega)]
      have q1 : ieq (iadd .i64 (digN s (pA s) : Int) ((digN s (pW s + 1) : Int))) (Int.ofNat 0) = false := by
        rw [ieq_f, eq1, ofn]
        intro h
        have h0 : digN s (pA s) = 0 ∧ (pP s).length = 0 := by omega
        exact hb ⟨List.length_eq_zero_iff.1 (by rw [digs_len]; exact h0.1), List.length_eq_zero_iff.1 h0.2⟩
      rw [hT]
      by_cases hx : pE s < s.length
      · obtain ⟨c, hce⟩ : ∃ c, s[pE s]? = some c := ⟨s[pE s], List.getElem?_eq_getElem hx⟩
        have hlx : ilt (iadd .i64 (iadd .i64 (iadd .i64 (pA s : Int) (digN s (pA s) : Int)) (Int.ofNat 1)) (digN s (pW s + 1) : Int)) (s.length : Int) = true := by rw [hr, ilt_t]; omega
        have hgx : iget s (iadd .i64 (iadd .i64 (iadd .i64 (pA s : Int) (digN s (pA s) : Int)) (Int.ofNat 1)) (digN s (pW s + 1) : Int)) = some c := by rw [hr]; exact iget_t hce
        by_cases hE1 : c = 101 ∨ c = 69
        · have h1 : pIsE s = true := by unfold pIsE; rw [hce]; rcases hE1 with rfl | rfl <;> rfl
          have hi1 : iadd .i64 (iadd .i64 (iadd .i64 (iadd .i64 (pA s : Int) (digN s (pA s) : Int)) (Int.ofNat 1)) (digN s (pW s + 1) : Int)) (Int.ofNat 1) = ((pE s + 1 : Nat) : Int) := by rw [hr]; exact iadd_one (by omega)
          have hs1 : sgn1 s (pE s + 1) ≤ 1 := by unfold sgn1; split <;> omega
          have hi2 : iadd .i64 (iadd .i64 (iadd .i64 (iadd .i64 (iadd .i64 (pA s : Int) (digN s (pA s) : Int)) (Int.ofNat 1)) (digN s (pW s + 1) : Int)) (Int.ofNat 1)) (sgn1 s (pE s + 1) : Int) = ((pX s : Nat) : Int) := by rw [hi1, iaddN (by omega)]; unfold pX; rw [← sgnN_1]
          have hX : pX s ≤ s.length + 1 := by unfold pX; rw [← sgnN_1]; omega
          have hN : digN s (pX s) ≤ s.length := by have := digs_le2 s (pX s); rw [digs_len] at this; exact this
          have t1 : ieq (c.toNat : Int) (Int.ofNat 101) = true ∨ (ieq (c.toNat : Int) (Int.ofNat 101) = false ∧ ieq (c.toNat : Int) (Int.ofNat 69) = true) := by
            rcases hE1 with rfl | rfl
            · exact .inl (ieq_c (c := 101) (k := 101) 101 rfl rfl)
            · exact .inr ⟨ieq_nc (c := 69) (k := 101) 101 rfl (by decide), ieq_c (c := 69) (k := 69) 69 rfl rfl⟩
          by_cases hn : digs s (pX s) = []
          · have hn0 : digN s (pX s) = 0 := by rw [← digs_len, hn]; rfl
            have q3 : ilt (Int.ofNat 0) (digN s (pX s) : Int) = false := by rw [ilt_f, hn0]; decide
            have hfin := numP_n hb (.inr hn)
            have hXe : rpX s = 0 := by unfold rpX; rw [if_neg (fun h => h.2 hn)]
            rcases t1 with t1 | ⟨t1, t2⟩
            all_goals
              repeat' (first
                | (refine vb_t rfl ?_; conv => whnf)
                | (refine vb_f rfl ?_; conv => whnf)
                | (refine vb_t (by assumption) ?_; conv => whnf)
                | (refine vb_f (by assumption) ?_; conv => whnf)
                | (refine vo_i hgx ?_; conv => whnf)
                | (refine vpur_i (rsign' s hi1 rfl) ?_; conv => whnf)
                | (refine vpur_i (rdigits' s hi2 (by omega) hs) ?_; conv => whnf)
                | fail)
              exact ⟨five_eq rfl rfl hp (by rw [hXe]; rfl) (by rw [hfin]; exact hr), rfl⟩
          · have hn0 : digN s (pX s) ≠ 0 := fun h => hn (List.length_eq_zero_iff.1 (by rw [digs_len]; exact h))
            have q3 : ilt (Int.ofNat 0) (digN s (pX s) : Int) = true := by rw [ilt_t, ofn]; omega
            have hfin := numP_e hb h1 hn
            have hXe : rpX s = pE s + 1 := by unfold rpX; rw [if_pos ⟨h1, hn⟩]
            rcases t1 with t1 | ⟨t1, t2⟩
            all_goals
              repeat' (first
                | (refine vb_t rfl ?_; conv => whnf)
                | (refine vb_f rfl ?_; conv => whnf)
                | (refine vb_t (by assumption) ?_; conv => whnf)
                | (refine vb_f (by assumption) ?_; conv => whnf)
                | (refine vo_i hgx ?_; conv => whnf)
                | (refine vpur_i (rsign' s hi1 rfl) ?_; conv => whnf)
                | (refine vpur_i (rdigits' s hi2 (by omega) hs) ?_; conv => whnf)
                | fail)
              exact ⟨five_eq rfl rfl hp (by rw [hXe]; exact hi1) (by rw [hfin]; show iadd .i64 (iadd .i64 (iadd .i64 (iadd .i64 (iadd .i64 (iadd .i64 (pA s : Int) (digN s (pA s) : Int)) (Int.ofNat 1)) (digN s (pW s + 1) : Int)) (Int.ofNat 1)) (sgn1 s (pE s + 1) : Int)) (digN s (pX s) : Int) = _; rw [hi2, iaddN (by omega)]), rfl⟩
        · have h1 : pIsE s = false := by
            unfold pIsE; rw [hce]; simp; exact ⟨fun e => hE1 (.inl e), fun e => hE1 (.inr e)⟩
          have t1 : ieq (c.toNat : Int) (Int.ofNat 101) = false := ieq_nc 101 rfl fun e => hE1 (.inl e)
          have t2 : ieq (c.toNat : Int) (Int.ofNat 69) = false := ieq_nc 69 rfl fun e => hE1 (.inr e)
          have hfin := numP_n hb (.inl h1)
          have hXe : rpX s = 0 := by unfold rpX; rw [if_neg (fun h => by rw [h1] at h; cases h.1)]
          repeat' (first
            | (refine vb_t rfl ?_; conv => whnf)
            | (refine vb_f rfl ?_; conv => whnf)
            | (refine vb_t (by assumption) ?_; conv => whnf)
            | (refine vb_f (by assumption) ?_; conv => whnf)
            | (refine vo_i hgx ?_; conv => whnf)
            | fail)
          exact ⟨five_eq rfl rfl hp (by rw [hXe]; rfl) (by rw [hfin]; exact hr), rfl⟩
      · try (exfalso; omega)
        all_goals
          have hlx : ilt (iadd .i64 (iadd .i64 (iadd .i64 (pA s : Int) (digN s (pA s) : Int)) (Int.ofNat 1)) (digN s (pW s + 1) : Int)) (s.length : Int) = false := by rw [hr, ilt_f]; omega
          have h1 : pIsE s = false := by unfold pIsE; rw [List.getElem?_eq_none (by omega)]; rfl
          have hfin := numP_n hb (.inl h1)
          have hXe : rpX s = 0 := by unfold rpX; rw [if_neg (fun h => by rw [h1] at h; cases h.1)]
          repeat' (first
            | (refine vb_t rfl ?_; conv => whnf)
            | (refine vb_f rfl ?_; conv => whnf)
            | (refine vb_t (by assumption) ?_; conv => whnf)
            | (refine vb_f (by assumption) ?_; conv => whnf)
            | fail)
          exact ⟨five_eq rfl rfl hp (by rw [hXe]; rfl) (by rw [hfin]; exact hr), rfl⟩
  · have hP : pP s = [] := by unfold pP; rw [if_neg hd]
    have hE : pE s = pW s := by unfold pE; rw [if_pos hP]
    have hr : iadd .i64 (pA s : Int) (digN s (pA s) : Int) = ((pE s : Nat) : Int) := by rw [e1, hE]
    have hdd : s[pW s]? ≠ some 46 := by simpa [pDot] using hd
    have hp : (Int.ofNat 0) = ((pP s).length : Int) := by rw [hP]; rfl
    by_cases hl : pW s < s.length
    · obtain ⟨c0, hc⟩ : ∃ c, s[pW s]? = some c := ⟨s[pW s], List.getElem?_eq_getElem hl⟩
      have hg : iget s (iadd .i64 (pA s : Int) (digN s (pA s) : Int)) = some c0 := by rw [e1]; exact iget_t hc
      have hlt : ilt (iadd .i64 (pA s : Int) (digN s (pA s) : Int)) (s.length : Int) = true := by rw [e1, ilt_t]; omega
      have he : ieq (c0.toNat : Int) (Int.ofNat 46) = false := ieq_nc 46 rfl fun e => hdd (by rw [hc, e])
      repeat' (first
        | (refine vb_t rfl ?_; conv => whnf)
        | (refine vb_f rfl ?_; conv => whnf)
        | (refine vb_t (by assumption) ?_; conv => whnf)
        | (refine vb_f (by assumption) ?_; conv => whnf)
        | (refine vo_i hg ?_; conv => whnf)
        | fail)
      by_cases hb : digs s (pA s) = [] ∧ pP s = []
      · have hw0 : digN s (pA s) = 0 := by rw [← digs_len, hb.1]; rfl
        have hp0 : (pP s).length = 0 := by rw [hb.2]; rfl
        have eq1 : iadd .i64 (digN s (pA s) : Int) (Int.ofNat 0) = ((0 : Nat) : Int) := by rw [hp, hw0, hp0, iaddN (by decide)]
        have q1 : ieq (iadd .i64 (digN s (pA s) : Int) (Int.ofNat 0)) (Int.ofNat 0) = true := by rw [ieq_t, eq1]; rfl
        have hT : rpT s = [I 0, I 0, I 0, I 0, I 0] := by unfold rpT; rw [if_pos hb]
        rw [hT]
        repeat' (first
          | (refine vb_t rfl ?_; conv => whnf)
          | (refine vb_f rfl ?_; conv => whnf)
          | (refine vb_t (by assumption) ?_; conv => whnf)
          | (refine vb_f (by assumption) ?_; conv => whnf)
          | fail)
        exact ⟨rfl, rfl⟩
      have hT : rpT s = [I (pA s : Int), I (digN s (pA s) : Int), I ((pP s).length : Int), I (rpX s : Int), I ((numP s).stop : Int)] := by unfold rpT; rw [if_neg hb]
      have hWl : digN s (pA s) ≤ s.length := by have := digs_le2 s (pA s); rw [digs_len] at this; exact this
      have hPl := pP_le s
      have eq1 : iadd .i64 (digN s (pA s) : Int) (Int.ofNat 0) = ((digN s (pA s) + (pP s).length : Nat) : Int) := by rw [hp, iaddN (by omega)]
      have q1 : ieq (iadd .i64 (digN s (pA s) : Int) (Int.ofNat 0)) (Int.ofNat 0) = false := by
        rw [ieq_f, eq1, ofn]
        intro h
        have h0 : digN s (pA s) = 0 ∧ (pP s).length = 0 := by omega
        exact hb ⟨List.length_eq_zero_iff.1 (by rw [digs_len]; exact h0.1), List.length_eq_zero_iff.1 h0.2⟩
      rw [hT]
      by_cases hx : pE s < s.length
      · obtain ⟨c, hce⟩ : ∃ c, s[pE s]? = some c := ⟨s[pE s], List.getElem?_eq_getElem hx⟩
        have hlx : ilt (iadd .i64 (pA s : Int) (digN s (pA s) : Int)) (s.length : Int) = true := by rw [hr, ilt_t]; omega
        have hgx : iget s (iadd .i64 (pA s : Int) (digN s (pA s) : Int)) = some c := by rw [hr]; exact iget_t hce
        by_cases hE1 : c = 101 ∨ c = 69
        · have h1 : pIsE s = true := by unfold pIsE; rw [hce]; rcases hE1 with rfl | rfl <;> rfl
          have hi1 : iadd .i64 (iadd .i64 (pA s : Int) (digN s (pA s) : Int)) (Int.ofNat 1) = ((pE s + 1 : Nat) : Int) := by rw [hr]; exact iadd_one (by omega)
          have hs1 : sgn1 s (pE s + 1) ≤ 1 := by unfold sgn1; split <;> omega
          have hi2 : iadd .i64 (iadd .i64 (iadd .i64 (pA s : Int) (digN s (pA s) : Int)) (Int.ofNat 1)) (sgn1 s (pE s + 1) : Int) = ((pX s : Nat) : Int) := by rw [hi1, iaddN (by omega)]; unfold pX; rw [← sgnN_1]
          have hX : pX s ≤ s.length + 1 := by unfold pX; rw [← sgnN_1]; omega
          have hN : digN s (pX s) ≤ s.length := by have := digs_le2 s (pX s); rw [digs_len] at this; exact this
          have t1 : ieq (c.toNat : Int) (Int.ofNat 101) = true ∨ (ieq (c.toNat : Int) (Int.ofNat 101) = false ∧ ieq (c.toNat : Int) (Int.ofNat 69) = true) := by
            rcases hE1 with rfl | rfl
            · exact .inl (ieq_c (c := 101) (k := 101) 101 rfl rfl)
            · exact .inr ⟨ieq_nc (c := 69) (k := 101) 101 rfl (by decide), ieq_c (c := 69) (k := 69) 69 rfl rfl⟩
          by_cases hn : digs s (pX s) = []
          · have hn0 : digN s (pX s) = 0 := by rw [← digs_len, hn]; rfl
            have q3 : ilt (Int.ofNat 0) (digN s (pX s) : Int) = false := by rw [ilt_f, hn0]; decide
            have hfin := numP_n hb (.inr hn)
            have hXe : rpX s = 0 := by unfold rpX; rw [if_neg (fun h => h.2 hn)]
            rcases t1 with t1 | ⟨t1, t2⟩
            all_goals
              repeat' (first
                | (refine vb_t rfl ?_; conv => whnf)
                | (refine vb_f rfl ?_; conv => whnf)
                | (refine vb_t (by assumption) ?_; conv => whnf)
                | (refine vb_f (by assumption) ?_; conv => whnf)
                | (refine vo_i hgx ?_; conv => whnf)
                | (refine vpur_i (rsign' s hi1 rfl) ?_; conv => whnf)
                | (refine vpur_i (rdigits' s hi2 (by omega) hs) ?_; conv => whnf)
                | fail)
              exact ⟨five_eq rfl rfl hp (by rw [hXe]; rfl) (by rw [hfin]; exact hr), rfl⟩
          · have hn0 : digN s (pX s) ≠ 0 := fun h => hn (List.length_eq_zero_iff.1 (by rw [digs_len]; exact h))
            have q3 : ilt (Int.ofNat 0) (digN s (pX s) : Int) = true := by rw [ilt_t, ofn]; omega
            have hfin := numP_e hb h1 hn
            have hXe : rpX s = pE s + 1 := by unfold rpX; rw [if_pos ⟨h1, hn⟩]
            rcases t1 with t1 | ⟨t1, t2⟩
            all_goals
              repeat' (first
                | (refine vb_t rfl ?_; conv => whnf)
                | (refine vb_f rfl ?_; conv => whnf)
                | (refine vb_t (by assumption) ?_; conv => whnf)
                | (refine vb_f (by assumption) ?_; conv => whnf)
                | (refine vo_i hgx ?_; conv => whnf)
                | (refine vpur_i (rsign' s hi1 rfl) ?_; conv => whnf)
                | (refine vpur_i (rdigits' s hi2 (by omega) hs) ?_; conv => whnf)
                | fail)
              exact ⟨five_eq rfl rfl hp (by rw [hXe]; exact hi1) (by rw [hfin]; show iadd .i64 (iadd .i64 (iadd .i64 (iadd .i64 (pA s : Int) (digN s (pA s) : Int)) (Int.ofNat 1)) (sgn1 s (pE s + 1) : Int)) (digN s (pX s) : Int) = _; rw [hi2, iaddN (by omega)]), rfl⟩
        · have h1 : pIsE s = false := by
            unfold pIsE; rw [hce]; simp; exact ⟨fun e => hE1 (.inl e), fun e => hE1 (.inr e)⟩
          have t1 : ieq (c.toNat : Int) (Int.ofNat 101) = false := ieq_nc 101 rfl fun e => hE1 (.inl e)
          have t2 : ieq (c.toNat : Int) (Int.ofNat 69) = false := ieq_nc 69 rfl fun e => hE1 (.inr e)
          have hfin := numP_n hb (.inl h1)
          have hXe : rpX s = 0 := by unfold rpX; rw [if_neg (fun h => by rw [h1] at h; cases h.1)]
          repeat' (first
            | (refine vb_t rfl ?_; conv => whnf)
            | (refine vb_f rfl ?_; conv => whnf)
            | (refine vb_t (by assumption) ?_; conv => whnf)
            | (refine vb_f (by assumption) ?_; conv => whnf)
            | (refine vo_i hgx ?_; conv => whnf)
            | fail)
          exact ⟨five_eq rfl rfl hp (by rw [hXe]; rfl) (by rw [hfin]; exact hr), rfl⟩
      · try (exfalso; omega)
        all_goals
          have hlx : ilt (iadd .i64 (pA s : Int) (digN s (pA s) : Int)) (s.length : Int) = false := by rw [hr, ilt_f]; omega
          have h1 : pIsE s = false := by unfold pIsE; rw [List.getElem?_eq_none (by omega)]; rfl
          have hfin := numP_n hb (.inl h1)
          have hXe : rpX s = 0 := by unfold rpX; rw [if_neg (fun h => by rw [h1] at h; cases h.1)]
          repeat' (first
            | (refine vb_t rfl ?_; conv => whnf)
            | (refine vb_f rfl ?_; conv => whnf)
            | (refine vb_t (by assumption) ?_; conv => whnf)
            | (refine vb_f (by assumption) ?_; conv => whnf)
            | fail)
          exact ⟨five_eq rfl rfl hp (by rw [hXe]; rfl) (by rw [hfin]; exact hr), rfl⟩
    · have hlt : ilt (iadd .i64 (pA s : Int) (digN s (pA s) : Int)) (s.length : Int) = false := by rw [e1, ilt_f]; omega
      repeat' (first
        | (refine vb_t rfl ?_; conv => whnf)
        | (refine vb_f rfl ?_; conv => whnf)
        | (refine vb_t (by assumption) ?_; conv => whnf)
        | (refine vb_f (by assumption) ?_; conv => whnf)
        | fail)
      by_cases hb : digs s (pA s) = [] ∧ pP s = []
      · have hw0 : digN s (pA s) = 0 := by rw [← digs_len, hb.1]; rfl
        have hp0 : (pP s).length = 0 := by rw [hb.2]; rfl
        have eq1 : iadd .i64 (digN s (pA s) : Int) (Int.ofNat 0) = ((0 : Nat) : Int) := by rw [hp, hw0, hp0, iaddN (by decide)]
        have q1 : ieq (iadd .i64 (digN s (pA s) : Int) (Int.ofNat 0)) (Int.ofNat 0) = true := by rw [ieq_t, eq1]; rfl
        have hT : rpT s = [I 0, I 0, I 0, I 0, I 0] := by unfold rpT; rw [if_pos hb]
        rw [hT]
        repeat' (first
          | (refine vb_t rfl ?_; conv => whnf)
          | (refine vb_f rfl ?_; conv => whnf)
          | (refine vb_t (by assumption) ?_; conv => whnf)
          | (refine vb_f (by assumption) ?_; conv => whnf)
          | fail)
        exact ⟨rfl, rfl⟩
      have hT : rpT s = [I (pA s : Int), I (digN s (pA s) : Int), I ((pP s).length : Int), I (rpX s : Int), I ((numP s).stop : Int)] := by unfold rpT; rw [if_neg hb]
      have hWl : digN s (pA s) ≤ s.length := by have := digs_le2 s (pA s); rw [digs_len] at this; exact this
      have hPl := pP_le s
      have eq1 : iadd .i64 (digN s (pA s) : Int) (Int.ofNat 0) = ((digN s (pA s) + (pP s).length : Nat) : Int) := by rw [hp, iaddN (by omega)]
      have q1 : ieq (iadd .i64 (digN s (pA s) : Int) (Int.ofNat 0)) (Int.ofNat 0) = false := by
        rw [ieq_f, eq1, ofn]
        intro h
        have h0 : digN s (pA s) = 0 ∧ (pP s).length = 0 := by omega
        exact hb ⟨List.length_eq_zero_iff.1 (by rw [digs_len]; exact h0.1), List.length_eq_zero_iff.1 h0.2⟩
      rw [hT]
      by_cases hx : pE s < s.length
      · obtain ⟨c, hce⟩ : ∃ c, s[pE s]? = some c := ⟨s[pE s], List.getElem?_eq_getElem hx⟩
        have hlx : ilt (iadd .i64 (pA s : Int) (digN s (pA s) : Int)) (s.length : Int) = true := by rw [hr, ilt_t]; omega
        have hgx : iget s (iadd .i64 (pA s : Int) (digN s (pA s) : Int)) = some c := by rw [hr]; exact iget_t hce
        by_cases hE1 : c = 101 ∨ c = 69
        · have h1 : pIsE s = true := by unfold pIsE; rw [hce]; rcases hE1 with rfl | rfl <;> rfl
          have hi1 : iadd .i64 (iadd .i64 (pA s : Int) (digN s (pA s) : Int)) (Int.ofNat 1) = ((pE s + 1 : Nat) : Int) := by rw [hr]; exact iadd_one (by omega)
          have hs1 : sgn1 s (pE s + 1) ≤ 1 := by unfold sgn1; split <;> omega
          have hi2 : iadd .i64 (iadd .i64 (iadd .i64 (pA s : Int) (digN s (pA s) : Int)) (Int.ofNat 1)) (sgn1 s (pE s + 1) : Int) = ((pX s : Nat) : Int) := by rw [hi1, iaddN (by omega)]; unfold pX; rw [← sgnN_1]
          have hX : pX s ≤ s.length + 1 := by unfold pX; rw [← sgnN_1]; omega
          have hN : digN s (pX s) ≤ s.length := by have := digs_le2 s (pX s); rw [digs_len] at this; exact this
          have t1 : ieq (c.toNat : Int) (Int.ofNat 101) = true ∨ (ieq (c.toNat : Int) (Int.ofNat 101) = false ∧ ieq (c.toNat : Int) (Int.ofNat 69) = true) := by
            rcases hE1 with rfl | rfl
            · exact .inl (ieq_c (c := 101) (k := 101) 101 rfl rfl)
            · exact .inr ⟨ieq_nc (c := 69) (k := 101) 101 rfl (by decide), ieq_c (c := 69) (k := 69) 69 rfl rfl⟩
          by_cases hn : digs s (pX s) = []
          · have hn0 : digN s (pX s) = 0 := by rw [← digs_len, hn]; rfl
            have q3 : ilt (Int.ofNat 0) (digN s (pX s) : Int) = false := by rw [ilt_f, hn0]; decide
            have hfin := numP_n hb (.inr hn)
            have hXe : rpX s = 0 := by unfold rpX; rw [if_neg (fun h => h.2 hn)]
            rcases t1 with t1 | ⟨t1, t2⟩
            all_goals
              repeat' (first
                | (refine vb_t rfl ?_; conv => whnf)
                | (refine vb_f rfl ?_; conv => whnf)
                | (refine vb_t (by assumption) ?_; conv => whnf)
                | (refine vb_f (by assumption) ?_; conv => whnf)
                | (refine vo_i hgx ?_; conv => whnf)
                | (refine vpur_i (rsign' s hi1 rfl) ?_; conv => whnf)
                | (refine vpur_i (rdigits' s hi2 (by omega) hs) ?_; conv => whnf)
                | fail)
              exact ⟨five_eq rfl rfl hp (by rw [hXe]; rfl) (by rw [hfin]; exact hr), rfl⟩
          · have hn0 : digN s (pX s) ≠ 0 := fun h => hn (List.length_eq_zero_iff.1 (by rw [digs_len]; exact h))
            have q3 : ilt (Int.ofNat 0) (digN s (pX s) : Int) = true := by rw [ilt_t, ofn]; omega
            have hfin := numP_e hb h1 hn
            have hXe : rpX s = pE s + 1 := by unfold rpX; rw [if_pos ⟨h1, hn⟩]
            rcases t1 with t1 | ⟨t1, t2⟩
            all_goals
              repeat' (first
                | (refine vb_t rfl ?_; conv => whnf)
                | (refine vb_f rfl ?_; conv => whnf)
                | (refine vb_t (by assumption) ?_; conv => whnf)
                | (refine vb_f (by assumption) ?_; conv => whnf)
                | (refine vo_i hgx ?_; conv => whnf)
                | (refine vpur_i (rsign' s hi1 rfl) ?_; conv => whnf)
                | (refine vpur_i (rdigits' s hi2 (by omega) hs) ?_; conv => whnf)
                | fail)
              exact ⟨five_eq rfl rfl hp (by rw [hXe]; exact hi1) (by rw [hfin]; show iadd .i64 (iadd .i64 (iadd .i64 (iadd .i64 (pA s : Int) (digN s (pA s) : Int)) (Int.ofNat 1)) (sgn1 s (pE s + 1) : Int)) (digN s (pX s) : Int) = _; rw [hi2, iaddN (by omega)]), rfl⟩
        · have h1 : pIsE s = false := by
            unfold pIsE; rw [hce]; simp; exact ⟨fun e => hE1 (.inl e), fun e => hE1 (.inr e)⟩
          have t1 : ieq (c.toNat : Int) (Int.ofNat 101) = false := ieq_nc 101 rfl fun e => hE1 (.inl e)
          have t2 : ieq (c.toNat : Int) (Int.ofNat 69) = false := ieq_nc 69 rfl fun e => hE1 (.inr e)
          have hfin := numP_n hb (.inl h1)
          have hXe : rpX s = 0 := by unfold rpX; rw [if_neg (fun h => by rw [h1] at h; cases h.1)]
          repeat' (first
            | (refine vb_t rfl ?_; conv => whnf)
            | (refine vb_f rfl ?_; conv => whnf)
            | (refine vb_t (by assumption) ?_; conv => whnf)
            | (refine vb_f (by assumption) ?_; conv => whnf)
            | (refine vo_i hgx ?_; conv => whnf)
            | fail)
          exact ⟨five_eq rfl rfl hp (by rw [hXe]; rfl) (by rw [hfin]; exact hr), rfl⟩
      · try (exfalso; omega)
        all_goals
          have hlx : ilt (iadd .i64 (pA s : Int) (digN s (pA s) : Int)) (s.length : Int) = false := by rw [hr, ilt_f]; omega
          have h1 : pIsE s = false := by unfold pIsE; rw [List.getElem?_eq_none (by omega)]; rfl
          have hfin := numP_n hb (.inl h1)
          have hXe : rpX s = 0 := by unfold rpX; rw [if_neg (fun h => by rw [h1] at h; cases h.1)]
          repeat' (first
            | (refine vb_t rfl ?_; conv => whnf)
            | (refine vb_f rfl ?_; conv => whnf)
            | (refine vb_t (by assumption) ?_; conv => whnf)
            | (refine vb_f (by assumption) ?_; conv => whnf)
            | fail)
          exact ⟨five_eq rfl rfl hp (by rw [hXe]; rfl) (by rw [hfin]; exact hr), rfl⟩
end Go.Proofs.YtjjolfgpphjhkaaGreatDoor.Ab
/- Layer 2 (number), the reference: digits scaled, and rounded. -/
namespace Go.Proofs.YtjjolfgpphjhkaaGreatDoor.Ab
open Go
set_option linter.unusedSimpArgs false
set_option maxRecDepth 100000
set_option linter.unusedVariables false
set_option maxHeartbeats 4000000

theorem nat_row (l : List Nat) (i : Nat) {c : Nat} (h : l[i]? = some c) : iget (l.map natRow) (i : Int) = some (natRow c) := iget_t (by rw [List.getElem?_map, h]; rfl)
theorem rem10 (a : Nat) : irem (a : Int) (Int.ofNat 10) = ((a % 10 : Nat) : Int) := by rw [g_ofn, u_rem]
theorem quo10 {a : Nat} (h : a ≤ 4611686018427387904) : iquo .i64 (a : Int) (Int.ofNat 10) = ((a / 10 : Nat) : Int) := by rw [g_ofn, g_quo h]
theorem map_snoc (l : List Nat) (z : Int) (n : Nat) (h : z = (n : Int)) : l.map natRow ++ [[DV.int .i64 z]] = (l ++ [n]).map natRow := by subst h; rw [List.map_append]; rfl
theorem digR_snoc {l : List Nat} {c : Nat} (h : digR l) (hc : c ≤ 9) : digR (l ++ [c]) := fun x hx => by
  rcases List.mem_append.1 hx with hx | hx
  · exact h x hx
  · rw [List.mem_singleton.1 hx]; exact hc
theorem rscaled_ok (L : List Nat) (hL : L ≠ []) (hd : digR L) (hl : L.length ≤ 1000) (sc : Nat) (hsc : sc ≤ 1000) :
    ∃ M : List Nat, Pur F0 59 [.d (.sl 1 (L.map natRow)), I (sc : Int)] [] .no (.ret (.d (.sl 1 (M.map natRow)))) .no ∧ (digR M ∧ valR M = valR L * sc ∧ M.length ≤ 3000) := by
  refine pur_ret (σ := List Nat) (g := fun M => .d (.sl 1 (M.map natRow))) (Q := fun M => digR M ∧ valR M = valR L * sc ∧ M.length ≤ 3000) code59_ok ?_
  conv => whnf
  have h0 : 0 < L.length := List.length_pos_iff.2 hL
  obtain ⟨c0, hc0⟩ : ∃ c, L[0]? = some c := ⟨L[0], List.getElem?_eq_getElem h0⟩
  have hc9 := hd c0 (List.mem_of_getElem? hc0)
  have hm0 : c0 * sc ≤ 9000 := by have := Nat.mul_le_mul hc9 hsc; omega
  have hr0 : iget (L.map natRow) (Int.ofNat 0) = some (natRow c0) := nat_row L 0 hc0
  have qn0 : ilt (Int.ofNat 0) ((L.map natRow).length : Int) = true := by rw [ilt_t, List.length_map, ofn]; omega
  have hz : iz (Int.ofNat 10) = false := by rw [iz_f]; decide
  have ev0 : iadd .i64 (imul .i64 (c0 : Int) (sc : Int)) (Int.ofNat 0) = ((c0 * sc : Nat) : Int) := by rw [imul64 (by omega) (by omega), iadd64 (by rw [ofn]; omega) (by rw [ofn]; omega), ofn]; omega
  have ht1 : L.take 1 = [c0] := by rw [List.take_add_one, hc0]; rfl
  refine vloop_once ?_
  conv => whnf
  repeat' (first
    | (refine vb_t rfl ?_; conv => whnf)
    | (refine vb_f rfl ?_; conv => whnf)
    | (refine vb_t (by assumption) ?_; conv => whnf)
    | (refine vb_f (by assumption) ?_; conv => whnf)
    | (refine vo_i hr0 ?_; conv => whnf)
    | (refine vb_t (room_t (by simp <;> omega)) ?_; conv => whnf)
    | fail)
  refine vloop_eq2 (fr' := [(0, .d (.sl 1 (L.map natRow))), (1, I (sc : Int)), (4, .d .nilsl), (5, .osl 0 0 0 1), (6, I ((c0 * sc / 10 : Nat) : Int)), (7, I ((1 : Nat) : Int))]) (h' := [⟨.mine, 3, .arr true 0 1 (([c0 * sc % 10] : List Nat).map natRow)⟩]) ?_ ?_ ?_
  · exact cons_eq rfl (cons_eq rfl (cons_eq rfl (cons_eq rfl (cons_eq (slot_eq (I_eq (by
      show iquo .i64 (iadd .i64 (imul .i64 (c0 : Int) (sc : Int)) (Int.ofNat 0)) (Int.ofNat 10) = _
      rw [ev0, quo10 (by omega)]))) (cons_eq (slot_eq (I_eq (iadd_one (i := 0) (by omega)))) rfl)))))
  · refine cons_eq (arr_eq ?_) rfl
    show [[DV.int .i64 (irem (iadd .i64 (imul .i64 (c0 : Int) (sc : Int)) (Int.ofNat 0)) (Int.ofNat 10))]] = [natRow (c0 * sc % 10)]
    rw [ev0, rem10]; rfl
  refine vloop_by (σ := { x : Nat × Nat × List Nat × Nat // 1 ≤ x.1 ∧ x.1 ≤ L.length ∧ x.2.2.1.length = x.1 ∧ digR x.2.2.1 ∧ valR x.2.2.1 + x.2.2.2 * 10 ^ x.1 = valR (L.take x.1) * sc ∧ x.2.2.2 ≤ 1000 })
    (fun x => [(0, .d (.sl 1 (L.map natRow))), (1, I (sc : Int)), (4, .d .nilsl), (5, .osl 0 x.1.2.1 0 x.1.2.2.1.length), (6, I (x.1.2.2.2 : Int)), (7, I (x.1.1 : Int))])
    (fun x => [⟨.mine, 3, .arr true x.1.2.1 1 (x.1.2.2.1.map natRow)⟩]) (fun x => L.length - x.1.1) ?_ ⟨(1, 0, [c0 * sc % 10], c0 * sc / 10), Nat.le_refl _, h0, rfl, fun x hx => by rw [List.mem_singleton.1 hx]; omega, by
      show valR [c0 * sc % 10] + c0 * sc / 10 * 10 ^ 1 = valR (L.take 1) * sc
      rw [ht1]; simp only [valR, Nat.mul_zero, Nat.add_zero, Nat.pow_one]; omega, by show c0 * sc / 10 ≤ 1000; omega⟩
  rintro ⟨⟨i, g, l, ca⟩, hi1, hi, hll, hlg, hv, hca⟩
  simp only at hi1 hi hll hlg hv hca
  have hq : ieq (l.length : Int) ((l.map natRow).length : Int) = true := by rw [ieq_t]; simp
  have hg : Nat.beq g g = true := by simp
  conv => whnf
  by_cases hlt : i < L.length
  · obtain ⟨c, hc⟩ : ∃ c, L[i]? = some c := ⟨L[i], List.getElem?_eq_getElem hlt⟩
    have hr := nat_row L i hc
    have hc9 := hd c (List.mem_of_getElem? hc)
    have hm : c * sc ≤ 9000 := by have := Nat.mul_le_mul hc9 hsc; omega
    have q1 : ilt (i : Int) ((L.map natRow).length : Int) = true := by rw [ilt_t, List.length_map]; omega
    have ev : iadd .i64 (imul .i64 (c : Int) (sc : Int)) (ca : Int) = ((c * sc + ca : Nat) : Int) := by rw [imul64 (by omega) (by omega), iadd64 (by omega) (by omega)]; omega
    have hms := mul_step (c := c) hv
    have hT : L.take (i + 1) = L.take i ++ [c] := by rw [List.take_add_one, hc]; rfl
    have hTl : (L.take i).length = i := by rw [List.length_take]; omega
    repeat' (first
      | (refine vb_t rfl ?_; conv => whnf)
      | (refine vb_f rfl ?_; conv => whnf)
      | (refine vb_t (by assumption) ?_; conv => whnf)
      | (refine vb_f (by assumption) ?_; conv => whnf)
      | (refine vo_i hr ?_; conv => whnf)
      | (refine vb_t (room_t (by simp <;> omega)) ?_; conv => whnf)
      | fail)
    refine ⟨⟨(i + 1, g + 1, l ++ [(c * sc + ca) % 10], (c * sc + ca) / 10), by simp only; omega, by simp only; omega, by simp only [List.length_append, List.length_singleton]; omega, digR_snoc hlg (by omega), ?_, by simp only; omega⟩, by simp only; omega,
      cons_eq rfl (cons_eq rfl (cons_eq rfl (cons_eq (slot_eq (osl_eq rfl (by simp))) (cons_eq (slot_eq (I_eq ?_)) (cons_eq (slot_eq (I_eq (iadd_one (i := i) (by omega)))) rfl))))), cons_eq (arr_eq (map_snoc _ _ _ ?_)) rfl, rfl, rfl⟩
    · show valR (l ++ [(c * sc + ca) % 10]) + (c * sc + ca) / 10 * 10 ^ (i + 1) = valR (L.take (i + 1)) * sc
      rw [hT, valR_snoc, valR_snoc, hll, hTl, Nat.pow_succ, Nat.mul_comm (10 ^ i) ((c * sc + ca) % 10), Nat.mul_comm (10 ^ i) c, Nat.add_comm (valR (L.take i))]
      rw [← hms]; omega
    · show iquo .i64 (iadd .i64 (imul .i64 (c : Int) (sc : Int)) (ca : Int)) (Int.ofNat 10) = _
      rw [ev, quo10 (by omega)]
    · show irem (iadd .i64 (imul .i64 (c : Int) (sc : Int)) (ca : Int)) (Int.ofNat 10) = _
      rw [ev, rem10]
  · have hiL : i = L.length := by omega
    have q1 : ilt (i : Int) ((L.map natRow).length : Int) = false := by rw [ilt_f, List.length_map]; omega
    rw [hiL, List.take_length, ← hiL, ← hll] at hv
    clear hd hc0 hr0 hm0 ev0 ht1 qn0
    repeat' (first
      | (refine vb_t rfl ?_; conv => whnf)
      | (refine vb_f rfl ?_; conv => whnf)
      | (refine vb_t (by assumption) ?_; conv => whnf)
      | (refine vb_f (by assumption) ?_; conv => whnf)
      | fail)
    refine vloop_by (σ := { x : Nat × List Nat × Nat // x.2.1 ≠ [] ∧ digR x.2.1 ∧ valR x.2.1 + x.2.2 * 10 ^ x.2.1.length = valR L * sc ∧ x.2.1.length + x.2.2 ≤ 2000 })
      (fun x => [(4, .d .nilsl), (5, .osl 0 x.1.1 0 x.1.2.1.length), (6, I (x.1.2.2 : Int))])
      (fun x => [⟨.mine, 3, .arr true x.1.1 1 (x.1.2.1.map natRow)⟩]) (fun x => x.1.2.2) ?_ ⟨(g, l, ca), fun e => by have e' : l = [] := e; rw [e'] at hll; simp at hll; omega, hlg, hv, by simp only; omega⟩
    clear hq hg hv hll hlg hca
    rintro ⟨⟨g, l, ca⟩, hl0, hlg, hv, hca⟩
    simp only at hl0 hlg hv hca
    have hq : ieq (l.length : Int) ((l.map natRow).length : Int) = true := by rw [ieq_t]; simp
    have hg : Nat.beq g g = true := by simp
    conv => whnf
    by_cases hc0 : ca = 0
    · have q2 : ilt (Int.ofNat 0) (ca : Int) = false := by rw [ilt_f, hc0]; decide
      have he : (l.map natRow).isEmpty = false := by
        cases l with
        | nil => exact (hl0 rfl).elim
        | cons c t => rfl
      repeat' (first
        | (refine vb_t rfl ?_; conv => whnf)
        | (refine vb_f rfl ?_; conv => whnf)
        | (refine vb_t (by assumption) ?_; conv => whnf)
        | (refine vb_f (by assumption) ?_; conv => whnf)
        | fail)
      refine ⟨l, ?_, rfl, hlg, by rw [← hv, hc0]; omega, by omega⟩
      show CR.ret (.d (.sl 1 (((l.map natRow).take l.length).drop 0))) = _
      rw [List.drop_zero, List.take_of_length_le (by simp)]
    · have q2 : ilt (Int.ofNat 0) (ca : Int) = true := by rw [ilt_t, ofn]; omega
      have hms := mul_step (c := 0) hv
      rw [Nat.zero_mul, Nat.zero_mul, Nat.zero_add, Nat.zero_add] at hms
      repeat' (first
        | (refine vb_t rfl ?_; conv => whnf)
        | (refine vb_f rfl ?_; conv => whnf)
        | (refine vb_t (by assumption) ?_; conv => whnf)
        | (refine vb_f (by assumption) ?_; conv => whnf)
        | (refine vb_t (room_t (by simp <;> omega)) ?_; conv => whnf)
        | fail)
      refine ⟨⟨(g + 1, l ++ [ca % 10], ca / 10), by simp, digR_snoc hlg (by omega), ?_, by simp only [List.length_append, List.length_singleton]; omega⟩, by simp only; omega,
        cons_eq rfl (cons_eq (slot_eq (osl_eq rfl (by simp))) (cons_eq (slot_eq (I_eq (show iquo .i64 (ca : Int) (Int.ofNat 10) = _ from quo10 (by omega)))) rfl)), cons_eq (arr_eq (map_snoc _ _ _ (rem10 ca))) rfl, rfl, rfl⟩
      show valR (l ++ [ca % 10]) + ca / 10 * 10 ^ (l ++ [ca % 10]).length = valR L * sc
      rw [valR_snoc, List.length_append, List.length_singleton, Nat.pow_succ, Nat.mul_comm (10 ^ l.length) (ca % 10), ← hms]; omega
theorem isub1 {j : Nat} (h : j ≤ 1000000) : isub .i64 ((j : Int) - 1) (Int.ofNat 1) = ((j : Int) - 1) - 1 := by rw [ofn, isub64 (by omega) (by omega)]; omega
theorem rround_ok (D : List Nat) (hd : digR D) (hl : D.length ≤ 10000) (b : Int) (hb1 : -10000 ≤ b) (hb2 : b ≤ 10000) :
    Pur F0 58 [.d (.sl 1 (D.map natRow)), I b] [] .no (.ret (I (rndM (valR D) b : Nat))) .no := by
  refine pur_code code58_ok ?_
  conv => whnf
  refine vloop_eq2 (fr' := [(0, .d (.sl 1 (D.map natRow))), (1, I b), (4, I (Int.ofNat 0)), (5, I ((capM (valR (D.drop D.length)) : Nat) : Int)), (6, I ((D.length : Int) - 1))]) (h' := []) ?_ rfl ?_
  · exact cons_eq rfl (cons_eq rfl (cons_eq rfl (cons_eq (slot_eq (I_eq (by rw [List.drop_length]; rfl))) (cons_eq (slot_eq (I_eq (by
      show isub .i64 ((D.map natRow).length : Int) (Int.ofNat 1) = _
      rw [List.length_map, ofn, isub64 (by omega) (by omega)]; rfl))) rfl))))
  refine vloop_by (σ := { j : Nat // j ≤ D.length ∧ (j = D.length ∨ b ≤ (j : Int)) }) (fun j => [(0, .d (.sl 1 (D.map natRow))), (1, I b), (4, I (Int.ofNat 0)), (5, I ((capM (valR (D.drop j.1)) : Nat) : Int)), (6, I ((j.1 : Int) - 1))]) (fun _ => []) (fun j => j.1) ?_ ⟨D.length, Nat.le_refl _, .inl rfl⟩
  rintro ⟨j, hj, hjb⟩
  conv => whnf
  by_cases hgo : 1 ≤ j ∧ b ≤ (j : Int) - 1
  · have q1 : ile (Int.ofNat 0) ((j : Int) - 1) = true := by rw [ile_t, ofn]; omega
    have q2 : ile b ((j : Int) - 1) = true := by rw [ile_t]; omega
    obtain ⟨i, rfl⟩ : ∃ i, j = i + 1 := ⟨j - 1, by omega⟩
    have ei : ((i + 1 : Nat) : Int) - 1 = (i : Int) := by omega
    obtain ⟨c, hc⟩ : ∃ c, D[i]? = some c := ⟨D[i], List.getElem?_eq_getElem (by omega)⟩
    have hr : iget (D.map natRow) (((i + 1 : Nat) : Int) - 1) = some (natRow c) := by rw [ei]; exact nat_row D i hc
    have hc9 := hd c (List.mem_of_getElem? hc)
    have hval : valR (D.drop i) = 10 * valR (D.drop (i + 1)) + c := by
      rw [List.drop_eq_getElem_cons (by omega), (List.getElem?_eq_some_iff.1 hc).2]
      simp only [valR]; omega
    have hcap : capM (valR (D.drop (i + 1))) ≤ 68719476737 := by unfold capM; omega
    repeat' (first
      | (refine vb_t rfl ?_; conv => whnf)
      | (refine vb_f rfl ?_; conv => whnf)
      | (refine vb_t (by assumption) ?_; conv => whnf)
      | (refine vb_f (by assumption) ?_; conv => whnf)
      | (refine vo_i hr ?_; conv => whnf)
      | fail)
    refine ⟨⟨i, by omega, .inr (by omega)⟩, by simp only; omega, cons_eq rfl (cons_eq rfl (cons_eq rfl (cons_eq (slot_eq (I_eq ?_)) (cons_eq (slot_eq (I_eq (show isub .i64 (((i + 1 : Nat) : Int) - 1) (Int.ofNat 1) = (i : Int) - 1 from by rw [isub1 (by omega)]; omega))) rfl)))), rfl, rfl, rfl⟩
    show imin (Int.ofNat 68719476737) (iadd .i64 (imul .i64 (Int.ofNat 10) ((capM (valR (D.drop (i + 1))) : Nat) : Int)) (c : Int)) = ((capM (valR (D.drop i)) : Nat) : Int)
    rw [hval, ← capM_step]
    generalize capM (valR (D.drop (i + 1))) = n at *
    rw [ofn, ofn, imul64 (by omega) (by omega), iadd64 (by omega) (by omega), imin_d]
    split <;> omega
  · have hY : capM (valR (D.drop j)) = capM (valR D / 10 ^ b.toNat) := by
      rcases Int.lt_or_le 0 b with hp | hp
      · have hjb2 : (j : Int) ≤ b := by omega
        rcases hjb with h | h
        · rw [h, List.drop_length, valR_over hd (by omega)]; rfl
        · have : b.toNat = j := by omega
          rw [this, valR_drop _ _ hd]
      · have h0 : j = 0 := by omega
        have h1 : b.toNat = 0 := by omega
        rw [h0, h1]; simp
    have hexit : ∀ (P : Prop), (ile (Int.ofNat 0) ((j : Int) - 1) = false → P) → (ile (Int.ofNat 0) ((j : Int) - 1) = true → ile b ((j : Int) - 1) = false → P) → P := fun P h1 h2 => by
      by_cases h0 : 1 ≤ j
      · exact h2 (by rw [ile_t, ofn]; omega) (by rw [ile_f]; omega)
      · exact h1 (by rw [ile_f, ofn]; omega)
    obtain ⟨Y, hYe⟩ : ∃ Y, valR D / 10 ^ b.toNat = Y := ⟨_, rfl⟩
    rw [hYe] at hY
    have hend : ∀ k : Nat, k = (-b).toNat → rndM (valR D) b = capM (Y * 10 ^ k) + (if 0 < b ∧ b ≤ (D.length : Int) ∧ 5 ≤ (D[b.toNat - 1]?).getD 0 then 1 else 0) := fun k hk => by
      unfold rndM
      by_cases hp : b ≤ 0
      · rw [if_pos hp, if_neg (by omega), ← hk, ← hYe]
        have : b.toNat = 0 := by omega
        rw [this]; simp
      · have hk0 : k = 0 := by omega
        rw [if_neg hp, hYe, hk0, Nat.pow_zero, Nat.mul_one]
        congr 1
        by_cases hbl : b ≤ (D.length : Int)
        · obtain ⟨c, hc⟩ : ∃ c, D[b.toNat - 1]? = some c := ⟨D[b.toNat - 1]'(by omega), List.getElem?_eq_getElem (by omega)⟩
          rw [valR_get hd hc, hc]
          by_cases h5 : 5 ≤ c
          · rw [if_pos h5, if_pos ⟨by omega, hbl, h5⟩]
          · rw [if_neg h5, if_neg (fun h => h5 h.2.2)]
        · rw [valR_over hd (by omega), if_neg (by decide), if_neg (fun h => hbl h.2.1)]
    refine hexit _ (fun q1 => ?_) (fun q1 q2 => ?_)
    all_goals
      repeat' (first
        | (refine vb_t rfl ?_; conv => whnf)
        | (refine vb_f rfl ?_; conv => whnf)
        | (refine vb_t (by assumption) ?_; conv => whnf)
        | (refine vb_f (by assumption) ?_; conv => whnf)
        | fail)
      refine vloop_eq2 (fr' := [(0, .d (.sl 1 (D.map natRow))), (1, I b), (4, I (Int.ofNat 0)), (5, I ((capM (Y * 10 ^ 0) : Nat) : Int)), (7, I (b + ((0 : Nat) : Int)))]) (h' := []) ?_ rfl ?_
      · exact cons_eq rfl (cons_eq rfl (cons_eq rfl (cons_eq (slot_eq (I_eq (by show ((capM (valR (D.drop j)) : Nat) : Int) = _; rw [hY, Nat.pow_zero, Nat.mul_one]))) (cons_eq (slot_eq (I_eq (by omega))) rfl))))
      refine vloop_by (σ := { k : Nat // k ≤ (-b).toNat }) (fun k => [(0, .d (.sl 1 (D.map natRow))), (1, I b), (4, I (Int.ofNat 0)), (5, I ((capM (Y * 10 ^ k.1) : Nat) : Int)), (7, I (b + (k.1 : Int)))]) (fun _ => []) (fun k => (-b).toNat - k.1) ?_ ⟨0, Nat.zero_le _⟩
      rintro ⟨k, hk⟩
      conv => whnf
      by_cases hk2 : b + (k : Int) < 0
      · have q5 : ilt (b + (k : Int)) (Int.ofNat 0) = true := by rw [ilt_t, ofn]; omega
        have hcap : capM (Y * 10 ^ k) ≤ 68719476737 := by unfold capM; omega
        repeat' (first
          | (refine vb_t rfl ?_; conv => whnf)
          | (refine vb_f rfl ?_; conv => whnf)
          | (refine vb_t (by assumption) ?_; conv => whnf)
          | (refine vb_f (by assumption) ?_; conv => whnf)
          | fail)
        refine ⟨⟨k + 1, by omega⟩, by simp only; omega, cons_eq rfl (cons_eq rfl (cons_eq rfl (cons_eq (slot_eq (I_eq ?_)) (cons_eq (slot_eq (I_eq ?_)) rfl)))), rfl, rfl, rfl⟩
        · show imin (Int.ofNat 68719476737) (imul .i64 (Int.ofNat 10) ((capM (Y * 10 ^ k) : Nat) : Int)) = ((capM (Y * 10 ^ (k + 1)) : Nat) : Int)
          have e : Y * 10 ^ (k + 1) = 10 * (Y * 10 ^ k) + 0 := by rw [Nat.pow_succ, ← Nat.mul_assoc, Nat.mul_comm]; rfl
          rw [e, ← capM_step]
          generalize capM (Y * 10 ^ k) = n at *
          rw [ofn, ofn, imul64 (by omega) (by omega), imin_d]
          split <;> omega
        · show iadd .i64 (b + (k : Int)) (Int.ofNat 1) = b + ((k + 1 : Nat) : Int)
          rw [ofn, iadd64 (by omega) (by omega)]; omega
      · have q5 : ilt (b + (k : Int)) (Int.ofNat 0) = false := by rw [ilt_f, ofn]; omega
        rw [hend k (by omega)]
        obtain ⟨n, hn⟩ : ∃ n, capM (Y * 10 ^ k) = n := ⟨_, rfl⟩
        have hcap : n ≤ 68719476737 := by rw [← hn]; unfold capM; omega
        by_cases hp : 0 < b
        · have q6 : ilt (Int.ofNat 0) b = true := by rw [ilt_t, ofn]; omega
          by_cases hbl : b ≤ (D.length : Int)
          · have q7 : ile b ((D.map natRow).length : Int) = true := by rw [ile_t, List.length_map]; exact hbl
            obtain ⟨c, hc⟩ : ∃ c, D[b.toNat - 1]? = some c := ⟨D[b.toNat - 1]'(by omega), List.getElem?_eq_getElem (by omega)⟩
            have hb1 : isub .i64 b (Int.ofNat 1) = ((b.toNat - 1 : Nat) : Int) := by rw [ofn, isub64 (by omega) (by omega)]; omega
            have hr : iget (D.map natRow) (isub .i64 b (Int.ofNat 1)) = some (natRow c) := by rw [hb1]; exact nat_row D _ hc
            rw [hc]
            by_cases h5 : 5 ≤ c
            · have q8 : ile (Int.ofNat 5) (c : Int) = true := by rw [ile_t, ofn]; omega
              rw [if_pos ⟨hp, hbl, h5⟩]
              repeat' (first
                | (refine vb_t rfl ?_; conv => whnf)
                | (refine vb_f rfl ?_; conv => whnf)
                | (refine vb_t (by assumption) ?_; conv => whnf)
                | (refine vb_f (by assumption) ?_; conv => whnf)
                | (refine vo_i hr ?_; conv => whnf)
                | fail)
              exact ⟨congrArg CR.ret (I_eq (by show iadd .i64 ((capM (Y * 10 ^ k) : Nat) : Int) (Int.ofNat 1) = _; rw [hn]; exact iadd_one (by omega))), rfl⟩
            · have q8 : ile (Int.ofNat 5) (c : Int) = false := by rw [ile_f, ofn]; omega
              rw [if_neg (fun h => h5 h.2.2)]
              repeat' (first
                | (refine vb_t rfl ?_; conv => whnf)
                | (refine vb_f rfl ?_; conv => whnf)
                | (refine vb_t (by assumption) ?_; conv => whnf)
                | (refine vb_f (by assumption) ?_; conv => whnf)
                | (refine vo_i hr ?_; conv => whnf)
                | fail)
              exact ⟨rfl, rfl⟩
          · have q7 : ile b ((D.map natRow).length : Int) = false := by rw [ile_f, List.length_map]; omega
            rw [if_neg (fun h => hbl h.2.1)]
            repeat' (first
              | (refine vb_t rfl ?_; conv => whnf)
              | (refine vb_f rfl ?_; conv => whnf)
              | (refine vb_t (by assumption) ?_; conv => whnf)
              | (refine vb_f (by assumption) ?_; conv => whnf)
              | fail)
            exact ⟨rfl, rfl⟩
        · have q6 : ilt (Int.ofNat 0) b = false := by rw [ilt_f, ofn]; omega
          rw [if_neg (fun h => hp h.1)]
          repeat' (first
            | (refine vb_t rfl ?_; conv => whnf)
            | (refine vb_f rfl ?_; conv => whnf)
            | (refine vb_t (by assumption) ?_; conv => whnf)
            | (refine vb_f (by assumption) ?_; conv => whnf)
            | fail)
          exact ⟨rfl, rfl⟩
end Go.Proofs.YtjjolfgpphjhkaaGreatDoor.Ab
/- Layer 2 (number), the reference: a number's value. -/
namespace Go.Proofs.YtjjolfgpphjhkaaGreatDoor.Ab
open Go
set_option linter.unusedSimpArgs false
set_option maxRecDepth 100000
set_option linter.unusedVariables false
set_option maxHeartbeats 4000000

theorem digs_get {s : List UInt8} {i j : Nat} (h : j < digN s i) : (digs s i)[j]? = s[i + j]? := by
  rw [digs_eq, List.getElem?_take, if_pos h, List.getElem?_drop]
theorem dig_at {s : List UInt8} {i j : Nat} {c : UInt8} (h : j < digN s i) (hc : s[i + j]? = some c) : isDig c = true := by
  rw [← digs_get h] at hc
  exact digs_dig s i c (List.mem_of_getElem? hc)
/-- The digits of a number, the first one first. -/
def allD (s : List UInt8) : List UInt8 := digs s (pA s) ++ pP s
theorem allD_len (s : List UInt8) : (allD s).length = digN s (pA s) + (pP s).length := by unfold allD; rw [List.length_append]; rfl
/-- How many digits have been seen behind so many steps. -/
def seen (s : List UInt8) (k : Nat) : Nat := if k ≤ (pP s).length then k else k - 1
/-- The character at a step. -/
theorem at_step {s : List UInt8} {k : Nat} (hk : k ≤ digN s (pA s) + (pP s).length) (hne : k ≠ (pP s).length) :
    (allD s)[(allD s).length - 1 - seen s k]? = s[pA s + digN s (pA s) + (pP s).length - k]? := by
  rw [allD_len]
  unfold allD seen
  split
  · rename_i h
    have hlt : k < (pP s).length := by omega
    have e : digN s (pA s) + (pP s).length - 1 - k = (digs s (pA s)).length + ((pP s).length - 1 - k) := by rw [digs_len]; omega
    rw [e, List.getElem?_append_right (by omega), Nat.add_sub_cancel_left]
    have hd : pDot s = true := by
      cases h : pDot s with
      | true => rfl
      | false =>
        have : pP s = [] := by unfold pP; rw [h]; rfl
        rw [this] at hlt; simp at hlt
    have hP : pP s = digs s (pW s + 1) := by unfold pP; rw [if_pos hd]
    have hPl : (pP s).length = digN s (pW s + 1) := by rw [hP]; rfl
    have e2 : pA s + digN s (pA s) + (pP s).length - k = pW s + 1 + ((pP s).length - 1 - k) := by unfold pW; omega
    rw [e2, ← digs_get (by omega), ← hP]
  · rename_i h
    have e : digN s (pA s) + (pP s).length - 1 - (k - 1) = digN s (pA s) + (pP s).length - k := by omega
    have e2 : pA s + digN s (pA s) + (pP s).length - k = pA s + (digN s (pA s) + (pP s).length - k) := by omega
    rw [e, e2, List.getElem?_append_left (by rw [digs_len]; omega), digs_get (by omega)]
def lastD (s : List UInt8) (m : Nat) : List Nat := ((((allD s).map dgt).drop ((allD s).length - m)).map UInt8.toNat).reverse
theorem lastD_zero (s : List UInt8) : lastD s 0 = [] := by unfold lastD; simp
theorem lastD_succ {s : List UInt8} {m : Nat} {c : UInt8} (hm : m < (allD s).length) (hc : (allD s)[(allD s).length - 1 - m]? = some c) : lastD s (m + 1) = lastD s m ++ [(dgt c).toNat] := by
  have hl : (allD s).length - (m + 1) < ((allD s).map dgt).length := by rw [List.length_map]; omega
  have e : (allD s).length - (m + 1) = (allD s).length - 1 - m := by omega
  unfold lastD
  rw [List.drop_eq_getElem_cons hl, List.map_cons, List.reverse_cons]
  congr 1
  · congr 3; omega
  · congr 1
    rw [List.getElem_map]
    congr 2
    have h2 := (List.getElem?_eq_some_iff.1 hc).2
    rw [← h2]; congr 1
theorem lastD_all (s : List UInt8) : lastD s (allD s).length = (((allD s).map dgt).map UInt8.toNat).reverse := by unfold lastD; rw [Nat.sub_self, List.drop_zero]
theorem allD_dig (s : List UInt8) : ∀ c ∈ allD s, isDig c = true := fun c hc => by
  rcases List.mem_append.1 hc with hc | hc
  · exact digs_dig _ _ c hc
  · exact pP_dig _ c hc
theorem lastD_digR (s : List UInt8) (m : Nat) : digR (lastD s m) := fun c hc => by
  unfold lastD at hc
  rw [List.mem_reverse] at hc
  obtain ⟨x, hx, rfl⟩ := List.mem_map.1 hc
  have hx2 := List.mem_of_mem_drop hx
  obtain ⟨y, hy, rfl⟩ := List.mem_map.1 hx2
  exact dgt_le (allD_dig s y hy)
theorem dgt_val {c : UInt8} (h : isDig c = true) : icast .i64 (isub .u8 (c.toNat : Int) (Int.ofNat 48)) = ((dgt c).toNat : Int) := by
  have h2 := c.toNat_lt
  rw [isub_dig h, icast64 (by omega) (by omega)]
  unfold dgt
  rw [of_dig (by omega)]
/-- The exponent, as the reference reads it. -/
theorem rexp_num (s : List UInt8) (hs : s.length ≤ 1000000) (hstop : (numP s).stop = s.length) (hb : ¬ (digs s (pA s) = [] ∧ pP s = [])) :
    Pur F0 60 [S s, I (rpX s : Int)] [] .no (.ret (I (expV (numP s).exp))) .no := by
  by_cases h : pIsE s = true ∧ digs s (pX s) ≠ []
  · have hn := numP_e hb h.1 h.2
    have hX : rpX s = pE s + 1 := by unfold rpX; rw [if_pos h]
    have hst : pX s + digN s (pX s) = s.length := by rw [hn] at hstop; exact hstop
    have hx : (numP s).exp = s.drop (pE s + 1) := by rw [hn]; show (s.take (pX s + digN s (pX s))).drop (pE s + 1) = _; rw [hst, List.take_length]
    have hne : digN s (pX s) ≠ 0 := fun e => h.2 (List.length_eq_zero_iff.1 (by rw [digs_len]; exact e))
    have hXs : pX s = pE s + 1 + sgn1 s (pE s + 1) := by unfold pX; rw [← sgnN_1]
    rw [hX, hx]
    refine rexp_ok s (pE s + 1) (by omega) (by omega) hs fun j c hj hc => ?_
    have hjl := (List.getElem?_eq_some_iff.1 hc).1
    obtain ⟨d, rfl⟩ : ∃ d, j = pX s + d := ⟨j - pX s, by omega⟩
    exact dig_at (by omega) hc
  · have hX : rpX s = 0 := by unfold rpX; rw [if_neg h]
    have hx : (numP s).exp = [] := by
      unfold numP; rw [if_neg hb, if_neg h]
    rw [hX, hx]
    exact rexp0_ok s
theorem natsV_len (x : Option (Nat × List Nat)) : (nats x).length = (match x with | none => 0 | some (_, l) => l.length) := by cases x <;> rfl
theorem stop_pos {s : List UInt8} (h : (numP s).stop ≠ 0) : ¬ (digs s (pA s) = [] ∧ pP s = []) := fun hb => h (by unfold numP; rw [if_pos hb])
theorem numP_w {s : List UInt8} (hb : ¬ (digs s (pA s) = [] ∧ pP s = [])) : (numP s).whole = digs s (pA s) ∧ (numP s).part = pP s ∧ (numP s).below = sgnB s 0 := by
  unfold numP; rw [if_neg hb]; split <;> exact ⟨rfl, rfl, rfl⟩
theorem seen_at {s : List UInt8} : seen s ((pP s).length + 1) = seen s (pP s).length := by unfold seen; rw [if_neg (by omega), if_pos (Nat.le_refl _)]; omega
theorem seen_succ {s : List UInt8} {k : Nat} (h : k ≠ (pP s).length) : seen s (k + 1) = seen s k + 1 := by unfold seen; split <;> split <;> omega
theorem seen_lt {s : List UInt8} {k : Nat} (hk : k ≤ digN s (pA s) + (pP s).length) (h : k ≠ (pP s).length) : seen s k < (allD s).length := by rw [allD_len]; unfold seen; split <;> omega
theorem seen_end (s : List UInt8) : seen s (digN s (pA s) + (pP s).length + 1) = (allD s).length := by rw [allD_len]; unfold seen; rw [if_neg (by omega)]; omega
theorem rvalue_ok (s : List UInt8) (sc : Nat) (hsc : sc = 1 ∨ sc = 64 ∨ sc = 1000) (hs : s.length ≤ 100000) : Pur F0 41 [S s, I (sc : Int)] [] .no (.ret (.tup [I (numV s sc).1, I (numV s sc).2])) .no := by
  obtain ⟨V, hV⟩ : ∃ V, numV s sc = V := ⟨_, rfl⟩
  rw [hV]
  unfold numV at hV
  have hsc0 : (ieq (sc : Int) (Int.ofNat 1) = true) ∨ (ieq (sc : Int) (Int.ofNat 1) = false ∧ ((ieq (sc : Int) (Int.ofNat 64) = true) ∨ (ieq (sc : Int) (Int.ofNat 64) = false ∧ ieq (sc : Int) (Int.ofNat 1000) = true))) := by
    simp only [ieq_t, ieq_f, ofn]
    omega
  have hn1 : ∀ b : Bool, b = true → (!b) = false := fun b h => by rw [h]; rfl
  have hn2 : ∀ b : Bool, b = false → (!b) = true := fun b h => by rw [h]; rfl
  have hT0 := rparts_ok s hs
  by_cases hb : digs s (pA s) = [] ∧ pP s = []
  · have hT : rpT s = [I 0, I 0, I 0, I 0, I 0] := by unfold rpT; rw [if_pos hb]
    have h0 : (numP s).stop = 0 := by unfold numP; rw [if_pos hb]
    rw [hT] at hT0
    rw [if_pos (.inl h0)] at hV
    subst hV
    have qz : ieq (0 : Int) (Int.ofNat 0) = true := by rw [ieq_t]; rfl
    refine pur_code code41_ok ?_
    conv => whnf
    rcases hsc0 with q1 | ⟨q1, q2 | ⟨q2, q3⟩⟩
    · have q1' := hn1 _ q1
      repeat' (first
        | (refine vb_t rfl ?_; conv => whnf)
        | (refine vb_f rfl ?_; conv => whnf)
        | (refine vb_t (by assumption) ?_; conv => whnf)
        | (refine vb_f (by assumption) ?_; conv => whnf)
        | (refine vpur_i hT0 ?_; conv => whnf)
        | fail)
      exact ⟨rfl, rfl⟩
    · have q1' := hn2 _ q1
      have q2' := hn1 _ q2
      repeat' (first
        | (refine vb_t rfl ?_; conv => whnf)
        | (refine vb_f rfl ?_; conv => whnf)
        | (refine vb_t (by assumption) ?_; conv => whnf)
        | (refine vb_f (by assumption) ?_; conv => whnf)
        | (refine vpur_i hT0 ?_; conv => whnf)
        | fail)
      exact ⟨rfl, rfl⟩
    · have q1' := hn2 _ q1
      have q2' := hn2 _ q2
      have q3' := hn1 _ q3
      repeat' (first
        | (refine vb_t rfl ?_; conv => whnf)
        | (refine vb_f rfl ?_; conv => whnf)
        | (refine vb_t (by assumption) ?_; conv => whnf)
        | (refine vb_f (by assumption) ?_; conv => whnf)
        | (refine vpur_i hT0 ?_; conv => whnf)
        | fail)
      exact ⟨rfl, rfl⟩
  have hT : rpT s = [I (pA s : Int), I (digN s (pA s) : Int), I ((pP s).length : Int), I (rpX s : Int), I ((numP s).stop : Int)] := by unfold rpT; rw [if_neg hb]
  rw [hT] at hT0
  refine pur_code code41_ok ?_
  conv => whnf
  rcases hsc0 with q1 | ⟨q1, q2 | ⟨q2, q3⟩⟩
  · have q1' := hn1 _ q1
    repeat' (first
      | (refine vb_t rfl ?_; conv => whnf)
      | (refine vb_f rfl ?_; conv => whnf)
      | (refine vb_t (by assumption) ?_; conv => whnf)
      | (refine vb_f (by assumption) ?_; conv => whnf)
      | fail)
    by_cases h0 : (numP s).stop = 0
    · have q2 : ieq ((numP s).stop : Int) (Int.ofNat 0) = true := by rw [ieq_t, h0]; rfl
      rw [if_pos (.inl h0)] at hV
      subst hV
      repeat' (first
        | (refine vb_t rfl ?_; conv => whnf)
        | (refine vb_f rfl ?_; conv => whnf)
        | (refine vb_t (by assumption) ?_; conv => whnf)
        | (refine vb_f (by assumption) ?_; conv => whnf)
        | (refine vpur_i hT0 ?_; conv => whnf)
        | fail)
      exact ⟨rfl, rfl⟩
    have q2 : ieq ((numP s).stop : Int) (Int.ofNat 0) = false := by rw [ieq_f, ofn]; omega
    by_cases h1 : (numP s).stop = s.length
    case neg =>
      have q3 : (!ieq ((numP s).stop : Int) (s.length : Int)) = true := hn2 _ (by rw [ieq_f]; omega)
      rw [if_pos (.inr (.inl h1))] at hV
      subst hV
      repeat' (first
        | (refine vb_t rfl ?_; conv => whnf)
        | (refine vb_f rfl ?_; conv => whnf)
        | (refine vb_t (by assumption) ?_; conv => whnf)
        | (refine vb_f (by assumption) ?_; conv => whnf)
        | (refine vpur_i hT0 ?_; conv => whnf)
        | fail)
      exact ⟨rfl, rfl⟩
    have q3 : (!ieq ((numP s).stop : Int) (s.length : Int)) = false := hn1 _ (by rw [ieq_t, h1])
    by_cases h2 : 300 < s.length
    · have q4 : ilt (Int.ofNat 300) (s.length : Int) = true := by rw [ilt_t, ofn]; omega
      rw [if_pos (.inr (.inr h2))] at hV
      subst hV
      repeat' (first
        | (refine vb_t rfl ?_; conv => whnf)
        | (refine vb_f rfl ?_; conv => whnf)
        | (refine vb_t (by assumption) ?_; conv => whnf)
        | (refine vb_f (by assumption) ?_; conv => whnf)
        | (refine vpur_i hT0 ?_; conv => whnf)
        | fail)
      exact ⟨rfl, rfl⟩
    have q4 : ilt (Int.ofNat 300) (s.length : Int) = false := by rw [ilt_f, ofn]; omega
    rw [if_neg (by omega)] at hV
    repeat' (first
      | (refine vb_t rfl ?_; conv => whnf)
      | (refine vb_f rfl ?_; conv => whnf)
      | (refine vb_t (by assumption) ?_; conv => whnf)
      | (refine vb_f (by assumption) ?_; conv => whnf)
      | (refine vpur_i hT0 ?_; conv => whnf)
      | fail)
    have hA : pA s ≤ 1 := by unfold pA sgnN; split <;> omega
    have hW : digN s (pA s) ≤ s.length := by have := digs_le2 s (pA s); rw [digs_len] at this; exact this
    have hP := pP_le s
    have e1 : iadd .i64 (pA s : Int) (digN s (pA s) : Int) = ((pA s + digN s (pA s) : Nat) : Int) := iaddN (by omega)
    have e2 : iadd .i64 (iadd .i64 (pA s : Int) (digN s (pA s) : Int)) ((pP s).length : Int) = ((pA s + digN s (pA s) + (pP s).length : Nat) : Int) := by rw [e1, iaddN (by omega)]
    obtain ⟨N, hN⟩ : ∃ N, pA s + digN s (pA s) + (pP s).length = N := ⟨_, rfl⟩
    rw [hN] at e2
    refine vloop_eq2 (fr' := [(0, S s), (1, I (sc : Int)), (4, I (Int.ofNat 0)), (5, I (Int.ofNat 0)), (6, I (pA s : Int)), (7, I (digN s (pA s) : Int)), (8, I ((pP s).length : Int)), (9, I (rpX s : Int)), (11, natsV none), (12, I ((N : Int) - ((0 : Nat) : Int)))]) (h' := natsH .mine 3 none) ?_ rfl ?_
    · exact cons_eq rfl (cons_eq rfl (cons_eq rfl (cons_eq rfl (cons_eq rfl (cons_eq rfl (cons_eq rfl (cons_eq rfl (cons_eq rfl (cons_eq (slot_eq (I_eq (e2.trans (by omega)))) rfl)))))))))
    refine vloop_by (σ := { x : Nat × Option (Nat × List Nat) // x.1 ≤ digN s (pA s) + (pP s).length + 1 ∧ nats x.2 = lastD s (seen s x.1) })
      (fun x => [(0, S s), (1, I (sc : Int)), (4, I (Int.ofNat 0)), (5, I (Int.ofNat 0)), (6, I (pA s : Int)), (7, I (digN s (pA s) : Int)), (8, I ((pP s).length : Int)), (9, I (rpX s : Int)), (11, natsV x.1.2), (12, I ((N : Int) - (x.1.1 : Int)))])
      (fun x => natsH .mine 3 x.1.2) (fun x => digN s (pA s) + (pP s).length + 1 - x.1.1) ?_ ⟨(0, none), Nat.zero_le _, by
        have : seen s 0 = 0 := by unfold seen; rw [if_pos (Nat.zero_le _)]
        show [] = lastD s (seen s 0)
        rw [this, lastD_zero]⟩
    rintro ⟨⟨k, x⟩, hk, hx⟩
    simp only at hk hx
    have hdown : isub .i64 ((N : Int) - (k : Int)) (Int.ofNat 1) = (N : Int) - ((k + 1 : Nat) : Int) := by rw [ofn, isub64 (by omega) (by omega)]; omega
    by_cases hkle : k ≤ digN s (pA s) + (pP s).length
    · rcases x with _ | ⟨g, l⟩
      · conv => whnf
        by_cases hkP : k = (pP s).length
        · have hik : (N : Int) - (k : Int) = ((pA s + digN s (pA s) : Nat) : Int) := by omega
          have q1 : ile (pA s : Int) ((N : Int) - (k : Int)) = true := by rw [ile_t]; omega
          have q4 : ilt ((N : Int) - (k : Int)) (iadd .i64 (pA s : Int) (digN s (pA s) : Int)) = false := by rw [e1, ilt_f]; omega
          have q5 : ilt (iadd .i64 (pA s : Int) (digN s (pA s) : Int)) ((N : Int) - (k : Int)) = false := by rw [e1, ilt_f]; omega
          have hx2 : nats (none) = lastD s (seen s (k + 1)) := by rw [hkP, seen_at, ← hkP]; exact hx
          by_cases hil : pA s + digN s (pA s) < s.length
          · have q2 : ilt ((N : Int) - (k : Int)) (s.length : Int) = true := by rw [ilt_t]; omega
            obtain ⟨c, hc⟩ : ∃ c, s[pA s + digN s (pA s)]? = some c := ⟨s[pA s + digN s (pA s)], List.getElem?_eq_getElem hil⟩
            have hg : iget s ((N : Int) - (k : Int)) = some c := by rw [hik]; exact iget_t hc
            cases hcd : isDig c with
            | true =>
              have hdg := rdigit_ok c
              rw [hcd] at hdg
              repeat' (first
                | (refine vb_t rfl ?_; conv => whnf)
                | (refine vb_f rfl ?_; conv => whnf)
                | (refine vb_t (by assumption) ?_; conv => whnf)
                | (refine vb_f (by assumption) ?_; conv => whnf)
                | (refine vo_i hg ?_; conv => whnf)
                | (refine vpur_i hdg ?_; conv => whnf)
                | fail)
              exact ⟨⟨(k + 1, none), by simp only; omega, hx2⟩, by simp only; omega, cons_eq rfl (cons_eq rfl (cons_eq rfl (cons_eq rfl (cons_eq rfl (cons_eq rfl (cons_eq rfl (cons_eq rfl (cons_eq rfl (cons_eq (slot_eq (I_eq hdown)) rfl))))))))), rfl, rfl, rfl⟩
            | false =>
              have hdg := rdigit_ok c
              rw [hcd] at hdg
              repeat' (first
                | (refine vb_t rfl ?_; conv => whnf)
                | (refine vb_f rfl ?_; conv => whnf)
                | (refine vb_t (by assumption) ?_; conv => whnf)
                | (refine vb_f (by assumption) ?_; conv => whnf)
                | (refine vo_i hg ?_; conv => whnf)
                | (refine vpur_i hdg ?_; conv => whnf)
                | fail)
              exact ⟨⟨(k + 1, none), by simp only; omega, hx2⟩, by simp only; omega, cons_eq rfl (cons_eq rfl (cons_eq rfl (cons_eq rfl (cons_eq rfl (cons_eq rfl (cons_eq rfl (cons_eq rfl (cons_eq rfl (cons_eq (slot_eq (I_eq hdown)) rfl))))))))), rfl, rfl, rfl⟩
          · have q2 : ilt ((N : Int) - (k : Int)) (s.length : Int) = false := by rw [ilt_f]; omega
            repeat' (first
              | (refine vb_t rfl ?_; conv => whnf)
              | (refine vb_f rfl ?_; conv => whnf)
              | (refine vb_t (by assumption) ?_; conv => whnf)
              | (refine vb_f (by assumption) ?_; conv => whnf)
              | fail)
            exact ⟨⟨(k + 1, none), by simp only; omega, hx2⟩, by simp only; omega, cons_eq rfl (cons_eq rfl (cons_eq rfl (cons_eq rfl (cons_eq rfl (cons_eq rfl (cons_eq rfl (cons_eq rfl (cons_eq rfl (cons_eq (slot_eq (I_eq hdown)) rfl))))))))), rfl, rfl, rfl⟩
        have hat := at_step hkle hkP
        have hsl := seen_lt hkle hkP
        obtain ⟨c, hc⟩ : ∃ c, (allD s)[(allD s).length - 1 - seen s k]? = some c := ⟨(allD s)[(allD s).length - 1 - seen s k]'(by omega), List.getElem?_eq_getElem (by omega)⟩
        have hla := lastD_succ hsl hc
        rw [← seen_succ hkP] at hla
        rw [hat] at hc
        have hcd := allD_dig s c (List.mem_of_getElem? (hat.trans hc))
        have hdg := rdigit_ok c
        rw [hcd] at hdg
        have hil := (List.getElem?_eq_some_iff.1 hc).1
        have hik : (N : Int) - (k : Int) = ((pA s + digN s (pA s) + (pP s).length - k : Nat) : Int) := by omega
        have hg : iget s ((N : Int) - (k : Int)) = some c := by rw [hik]; exact iget_t hc
        have q1 : ile (pA s : Int) ((N : Int) - (k : Int)) = true := by rw [ile_t]; omega
        have q2 : ilt ((N : Int) - (k : Int)) (s.length : Int) = true := by rw [ilt_t]; omega
        have q7 : ile ((N : Int) - (k : Int)) (iadd .i64 (iadd .i64 (pA s : Int) (digN s (pA s) : Int)) ((pP s).length : Int)) = true := by rw [e2, ile_t]; omega
        have hnx : nats (some (0, [(dgt c).toNat])) = lastD s (seen s (k + 1)) := by rw [hla, ← hx]; rfl
        have hq4 : (ilt ((N : Int) - (k : Int)) (iadd .i64 (pA s : Int) (digN s (pA s) : Int)) = true) ∨ (ilt ((N : Int) - (k : Int)) (iadd .i64 (pA s : Int) (digN s (pA s) : Int)) = false ∧ ilt (iadd .i64 (pA s : Int) (digN s (pA s) : Int)) ((N : Int) - (k : Int)) = true) := by
          rw [e1, ilt_t, ilt_t, ilt_f]; omega
        rcases hq4 with q4 | ⟨q4, q5⟩
        · repeat' (first
            | (refine vb_t rfl ?_; conv => whnf)
            | (refine vb_f rfl ?_; conv => whnf)
            | (refine vb_t (by assumption) ?_; conv => whnf)
            | (refine vb_f (by assumption) ?_; conv => whnf)
            | (refine vo_i hg ?_; conv => whnf)
            | (refine vpur_i hdg ?_; conv => whnf)
            | (refine vb_t (room_t (by simp <;> omega)) ?_; conv => whnf)
            | fail)
          exact ⟨⟨(k + 1, some (0, [(dgt c).toNat])), by simp only; omega, hnx⟩, by simp only; omega, cons_eq rfl (cons_eq rfl (cons_eq rfl (cons_eq rfl (cons_eq rfl (cons_eq rfl (cons_eq rfl (cons_eq rfl (cons_eq rfl (cons_eq (slot_eq (I_eq hdown)) rfl))))))))), cons_eq (arr_eq (map_snoc [] _ _ (dgt_val hcd))) rfl, rfl, rfl⟩
        · repeat' (first
            | (refine vb_t rfl ?_; conv => whnf)
            | (refine vb_f rfl ?_; conv => whnf)
            | (refine vb_t (by assumption) ?_; conv => whnf)
            | (refine vb_f (by assumption) ?_; conv => whnf)
            | (refine vo_i hg ?_; conv => whnf)
            | (refine vpur_i hdg ?_; conv => whnf)
            | (refine vb_t (room_t (by simp <;> omega)) ?_; conv => whnf)
            | fail)
          exact ⟨⟨(k + 1, some (0, [(dgt c).toNat])), by simp only; omega, hnx⟩, by simp only; omega, cons_eq rfl (cons_eq rfl (cons_eq rfl (cons_eq rfl (cons_eq rfl (cons_eq rfl (cons_eq rfl (cons_eq rfl (cons_eq rfl (cons_eq (slot_eq (I_eq hdown)) rfl))))))))), cons_eq (arr_eq (map_snoc [] _ _ (dgt_val hcd))) rfl, rfl, rfl⟩
      · have hll : l.length ≤ 100000 := by
          have h3 := congrArg List.length hx
          have h4 : (lastD s (seen s k)).length ≤ (allD s).length := by unfold lastD; simp
          rw [allD_len] at h4
          change l.length = _ at h3
          omega
        have hq : ieq (l.length : Int) ((l.map natRow).length : Int) = true := by rw [ieq_t]; simp
        have hgg : Nat.beq g g = true := by simp
        conv => whnf
        by_cases hkP : k = (pP s).length
        · have hik : (N : Int) - (k : Int) = ((pA s + digN s (pA s) : Nat) : Int) := by omega
          have q1 : ile (pA s : Int) ((N : Int) - (k : Int)) = true := by rw [ile_t]; omega
          have q4 : ilt ((N : Int) - (k : Int)) (iadd .i64 (pA s : Int) (digN s (pA s) : Int)) = false := by rw [e1, ilt_f]; omega
          have q5 : ilt (iadd .i64 (pA s : Int) (digN s (pA s) : Int)) ((N : Int) - (k : Int)) = false := by rw [e1, ilt_f]; omega
          have hx2 : nats (some (g, l)) = lastD s (seen s (k + 1)) := by rw [hkP, seen_at, ← hkP]; exact hx
          by_cases hil : pA s + digN s (pA s) < s.length
          · have q2 : ilt ((N : Int) - (k : Int)) (s.length : Int) = true := by rw [ilt_t]; omega
            obtain ⟨c, hc⟩ : ∃ c, s[pA s + digN s (pA s)]? = some c := ⟨s[pA s + digN s (pA s)], List.getElem?_eq_getElem hil⟩
            have hg : iget s ((N : Int) - (k : Int)) = some c := by rw [hik]; exact iget_t hc
            cases hcd : isDig c with
            | true =>
              have hdg := rdigit_ok c
              rw [hcd] at hdg
              repeat' (first
                | (refine vb_t rfl ?_; conv => whnf)
                | (refine vb_f rfl ?_; conv => whnf)
                | (refine vb_t (by assumption) ?_; conv => whnf)
                | (refine vb_f (by assumption) ?_; conv => whnf)
                | (refine vo_i hg ?_; conv => whnf)
                | (refine vpur_i hdg ?_; conv => whnf)
                | fail)
              exact ⟨⟨(k + 1, some (g, l)), by simp only; omega, hx2⟩, by simp only; omega, cons_eq rfl (cons_eq rfl (cons_eq rfl (cons_eq rfl (cons_eq rfl (cons_eq rfl (cons_eq rfl (cons_eq rfl (cons_eq rfl (cons_eq (slot_eq (I_eq hdown)) rfl))))))))), rfl, rfl, rfl⟩
            | false =>
              have hdg := rdigit_ok c
              rw [hcd] at hdg
              repeat' (first
                | (refine vb_t rfl ?_; conv => whnf)
                | (refine vb_f rfl ?_; conv => whnf)
                | (refine vb_t (by assumption) ?_; conv => whnf)
                | (refine vb_f (by assumption) ?_; conv => whnf)
                | (refine vo_i hg ?_; conv => whnf)
                | (refine vpur_i hdg ?_; conv => whnf)
                | fail)
              exact ⟨⟨(k + 1, some (g, l)), by simp only; omega, hx2⟩, by simp only; omega, cons_eq rfl (cons_eq rfl (cons_eq rfl (cons_eq rfl (cons_eq rfl (cons_eq rfl (cons_eq rfl (cons_eq rfl (cons_eq rfl (cons_eq (slot_eq (I_eq hdown)) rfl))))))))), rfl, rfl, rfl⟩
          · have q2 : ilt ((N : Int) - (k : Int)) (s.length : Int) = false := by rw [ilt_f]; omega
            repeat' (first
              | (refine vb_t rfl ?_; conv => whnf)
              | (refine vb_f rfl ?_; conv => whnf)
              | (refine vb_t (by assumption) ?_; conv => whnf)
              | (refine vb_f (by assumption) ?_; conv => whnf)
              | fail)
            exact ⟨⟨(k + 1, some (g, l)), by simp only; omega, hx2⟩, by simp only; omega, cons_eq rfl (cons_eq rfl (cons_eq rfl (cons_eq rfl (cons_eq rfl (cons_eq rfl (cons_eq rfl (cons_eq rfl (cons_eq rfl (cons_eq (slot_eq (I_eq hdown)) rfl))))))))), rfl, rfl, rfl⟩
        have hat := at_step hkle hkP
        have hsl := seen_lt hkle hkP
        obtain ⟨c, hc⟩ : ∃ c, (allD s)[(allD s).length - 1 - seen s k]? = some c := ⟨(allD s)[(allD s).length - 1 - seen s k]'(by omega), List.getElem?_eq_getElem (by omega)⟩
        have hla := lastD_succ hsl hc
        rw [← seen_succ hkP] at hla
        rw [hat] at hc
        have hcd := allD_dig s c (List.mem_of_getElem? (hat.trans hc))
        have hdg := rdigit_ok c
        rw [hcd] at hdg
        have hil := (List.getElem?_eq_some_iff.1 hc).1
        have hik : (N : Int) - (k : Int) = ((pA s + digN s (pA s) + (pP s).length - k : Nat) : Int) := by omega
        have hg : iget s ((N : Int) - (k : Int)) = some c := by rw [hik]; exact iget_t hc
        have q1 : ile (pA s : Int) ((N : Int) - (k : Int)) = true := by rw [ile_t]; omega
        have q2 : ilt ((N : Int) - (k : Int)) (s.length : Int) = true := by rw [ilt_t]; omega
        have q7 : ile ((N : Int) - (k : Int)) (iadd .i64 (iadd .i64 (pA s : Int) (digN s (pA s) : Int)) ((pP s).length : Int)) = true := by rw [e2, ile_t]; omega
        have hnx : nats (some (g + 1, l ++ [(dgt c).toNat])) = lastD s (seen s (k + 1)) := by rw [hla, ← hx]; rfl
        have hq4 : (ilt ((N : Int) - (k : Int)) (iadd .i64 (pA s : Int) (digN s (pA s) : Int)) = true) ∨ (ilt ((N : Int) - (k : Int)) (iadd .i64 (pA s : Int) (digN s (pA s) : Int)) = false ∧ ilt (iadd .i64 (pA s : Int) (digN s (pA s) : Int)) ((N : Int) - (k : Int)) = true) := by
          rw [e1, ilt_t, ilt_t, ilt_f]; omega
        rcases hq4 with q4 | ⟨q4, q5⟩
        · repeat' (first
            | (refine vb_t rfl ?_; conv => whnf)
            | (refine vb_f rfl ?_; conv => whnf)
            | (refine vb_t (by assumption) ?_; conv => whnf)
            | (refine vb_f (by assumption) ?_; conv => whnf)
            | (refine vo_i hg ?_; conv => whnf)
            | (refine vpur_i hdg ?_; conv => whnf)
            | (refine vb_t (room_t (by simp <;> omega)) ?_; conv => whnf)
            | fail)
          exact ⟨⟨(k + 1, some (g + 1, l ++ [(dgt c).toNat])), by simp only; omega, hnx⟩, by simp only; omega, cons_eq rfl (cons_eq rfl (cons_eq rfl (cons_eq rfl (cons_eq rfl (cons_eq rfl (cons_eq rfl (cons_eq rfl (cons_eq (slot_eq (osl_eq rfl (by simp))) (cons_eq (slot_eq (I_eq hdown)) rfl))))))))), cons_eq (arr_eq (map_snoc l _ _ (dgt_val hcd))) rfl, rfl, rfl⟩
        · repeat' (first
            | (refine vb_t rfl ?_; conv => whnf)
            | (refine vb_f rfl ?_; conv => whnf)
            | (refine vb_t (by assumption) ?_; conv => whnf)
            | (refine vb_f (by assumption) ?_; conv => whnf)
            | (refine vo_i hg ?_; conv => whnf)
            | (refine vpur_i hdg ?_; conv => whnf)
            | (refine vb_t (room_t (by simp <;> omega)) ?_; conv => whnf)
            | fail)
          exact ⟨⟨(k + 1, some (g + 1, l ++ [(dgt c).toNat])), by simp only; omega, hnx⟩, by simp only; omega, cons_eq rfl (cons_eq rfl (cons_eq rfl (cons_eq rfl (cons_eq rfl (cons_eq rfl (cons_eq rfl (cons_eq rfl (cons_eq (slot_eq (osl_eq rfl (by simp))) (cons_eq (slot_eq (I_eq hdown)) rfl))))))))), cons_eq (arr_eq (map_snoc l _ _ (dgt_val hcd))) rfl, rfl, rfl⟩
    obtain rfl : k = digN s (pA s) + (pP s).length + 1 := by omega
    rw [seen_end] at hx
    have hne : 0 < (allD s).length := by
      rcases Nat.eq_zero_or_pos (allD s).length with h | h
      · exact (hb (by have h5 := List.length_eq_zero_iff.1 h; unfold allD at h5; exact List.append_eq_nil_iff.1 h5)).elim
      · exact h
    have hlen : (lastD s (allD s).length).length = (allD s).length := by unfold lastD; simp
    have q1 : ile (pA s : Int) ((N : Int) - ((digN s (pA s) + (pP s).length + 1 : Nat) : Int)) = false := by rw [ile_f]; omega
    rcases x with _ | ⟨g, l⟩
    · exfalso
      have h3 := congrArg List.length hx
      rw [hlen] at h3
      change 0 = _ at h3
      omega
    change l = _ at hx
    have hll : l.length = (allD s).length := by rw [hx, hlen]
    have hl0 : l ≠ [] := fun e => by rw [e] at hll; simp at hll; omega
    have hlv : valR l = valD (dgs (numP s)) := by
      obtain ⟨w1, w2, _⟩ := numP_w hb
      rw [hx, lastD_all, valR_rev]
      unfold dgs allD; rw [w1, w2]
    obtain ⟨M, hMS, hM1, hM2, hM3⟩ := rscaled_ok l hl0 (by rw [hx]; exact lastD_digR _ _) (by rw [hll, allD_len]; omega) sc (by omega)
    have hgg : Nat.beq g g = true := by simp
    have he : (l.map natRow).isEmpty = false := by
      cases l with
      | nil => exact (hl0 rfl).elim
      | cons c t => rfl
    have hdr : ((l.map natRow).take l.length).drop 0 = l.map natRow := by rw [List.drop_zero, List.take_of_length_le (by simp)]
    have hE := expD_le (numP s).exp
    have hE2 : -1000 ≤ expV (numP s).exp ∧ expV (numP s).exp ≤ 1000 := by unfold expV; split <;> omega
    have hbe : isub .i64 ((pP s).length : Int) (expV (numP s).exp) = ((numP s).part.length : Int) - expV (numP s).exp := by rw [(numP_w hb).2.1, isub64 (by omega) (by omega)]
    have hpl : (numP s).part.length ≤ s.length := (numP_facts s).2.1
    have hR := rround_ok M hM1 (by omega) (((numP s).part.length : Int) - expV (numP s).exp) (by omega) (by omega)
    rw [hM2, hlv, ← hbe] at hR
    have hX := rexp_num s (by omega) h1 hb
    have hs0 : 0 < s.length := by omega
    obtain ⟨c0, hc0⟩ : ∃ c, s[0]? = some c := ⟨s[0], List.getElem?_eq_getElem hs0⟩
    have hg0 : iget s (Int.ofNat 0) = some c0 := iget_t hc0
    have hbel : (numP s).below = decide (c0 = 45) := by rw [(numP_w hb).2.2]; unfold sgnB; rw [hc0]; simp
    clear hM1 hM2 hlv hT0 hx hlen hll hl0 hne hc0 hdown
    obtain ⟨X, hXe⟩ : ∃ X, valD (dgs (numP s)) * sc = X := ⟨_, rfl⟩
    rw [← hbe, hXe] at hV
    rw [hXe] at hR
    by_cases hM : rndN X (isub .i64 ((pP s).length : Int) (expV (numP s).exp)) ≤ 68719476736
    · have hRe := rndM_eq hM
      rw [hRe] at hR
      rw [if_pos hM] at hV
      obtain ⟨R, hRR⟩ : ∃ R, rndN X (isub .i64 ((pP s).length : Int) (expV (numP s).exp)) = R := ⟨_, rfl⟩
      rw [hRR] at hR hV hM
      have q6 : ilt (Int.ofNat 68719476736) (R : Int) = false := by rw [ilt_f, ofn]; omega
      by_cases h45 : c0 = 45
      · have q5 : ieq (c0.toNat : Int) (Int.ofNat 45) = true := ieq_c 45 rfl h45
        rw [hbel, decide_eq_true h45, if_pos rfl] at hV
        subst hV
        conv => whnf
        repeat' (first
          | (refine vb_t rfl ?_; conv => whnf)
          | (refine vb_f rfl ?_; conv => whnf)
          | (refine vb_t (by assumption) ?_; conv => whnf)
          | (refine vb_f (by assumption) ?_; conv => whnf)
          | (rw [hdr]; conv => whnf)
          | (refine vpur_i hMS ?_; conv => whnf)
          | (refine vpur_i hX ?_; conv => whnf)
          | (refine vpur_i hR ?_; conv => whnf)
          | (refine vo_i hg0 ?_; conv => whnf)
          | fail)
        refine ⟨congrArg CR.ret ?_, rfl⟩
        show AV.tup [I (isub .i64 (Int.ofNat 0) (R : Int)), I 0] = .tup [I (-(R : Int)), I 0]
        rw [ofn, isub64 (by omega) (by omega), Int.natCast_zero, Int.zero_sub]
      · have q5 : ieq (c0.toNat : Int) (Int.ofNat 45) = false := ieq_nc 45 rfl h45
        rw [hbel, decide_eq_false h45, if_neg (by decide)] at hV
        subst hV
        conv => whnf
        repeat' (first
          | (refine vb_t rfl ?_; conv => whnf)
          | (refine vb_f rfl ?_; conv => whnf)
          | (refine vb_t (by assumption) ?_; conv => whnf)
          | (refine vb_f (by assumption) ?_; conv => whnf)
          | (rw [hdr]; conv => whnf)
          | (refine vpur_i hMS ?_; conv => whnf)
          | (refine vpur_i hX ?_; conv => whnf)
          | (refine vpur_i hR ?_; conv => whnf)
          | (refine vo_i hg0 ?_; conv => whnf)
          | fail)
        exact ⟨rfl, rfl⟩
    · rw [if_neg hM] at hV
      subst hV
      rw [← rndM_le] at hM
      obtain ⟨R, hRR⟩ : ∃ R, rndM X (isub .i64 ((pP s).length : Int) (expV (numP s).exp)) = R := ⟨_, rfl⟩
      rw [hRR] at hR hM
      have q6 : ilt (Int.ofNat 68719476736) (R : Int) = true := by rw [ilt_t, ofn]; omega
      conv => whnf
      repeat' (first
        | (refine vb_t rfl ?_; conv => whnf)
        | (refine vb_f rfl ?_; conv => whnf)
        | (refine vb_t (by assumption) ?_; conv => whnf)
        | (refine vb_f (by assumption) ?_; conv => whnf)
        | (rw [hdr]; conv => whnf)
        | (refine vpur_i hMS ?_; conv => whnf)
        | (refine vpur_i hX ?_; conv => whnf)
        | (refine vpur_i hR ?_; conv => whnf)
        | (refine vo_i hg0 ?_; conv => whnf)
        | fail)
      exact ⟨rfl, rfl⟩
  · have q1' := hn2 _ q1
    have q2' := hn1 _ q2
    clear q1 q2
    repeat' (first
      | (refine vb_t rfl ?_; conv => whnf)
      | (refine vb_f rfl ?_; conv => whnf)
      | (refine vb_t (by assumption) ?_; conv => whnf)
      | (refine vb_f (by assumption) ?_; conv => whnf)
      | fail)
    by_cases h0 : (numP s).stop = 0
    · have q2 : ieq ((numP s).stop : Int) (Int.ofNat 0) = true := by rw [ieq_t, h0]; rfl
      rw [if_pos (.inl h0)] at hV
      subst hV
      repeat' (first
        | (refine vb_t rfl ?_; conv => whnf)
        | (refine vb_f rfl ?_; conv => whnf)
        | (refine vb_t (by assumption) ?_; conv => whnf)
        | (refine vb_f (by assumption) ?_; conv => whnf)
        | (refine vpur_i hT0 ?_; conv => whnf)
        | fail)
      exact ⟨rfl, rfl⟩
    have q2 : ieq ((numP s).stop : Int) (Int.ofNat 0) = false := by rw [ieq_f, ofn]; omega
    by_cases h1 : (numP s).stop = s.length
    case neg =>
      have q3 : (!ieq ((numP s).stop : Int) (s.length : Int)) = true := hn2 _ (by rw [ieq_f]; omega)
      rw [if_pos (.inr (.inl h1))] at hV
      subst hV
      repeat' (first
        | (refine vb_t rfl ?_; conv => whnf)
        | (refine vb_f rfl ?_; conv => whnf)
        | (refine vb_t (by assumption) ?_; conv => whnf)
        | (refine vb_f (by assumption) ?_; conv => whnf)
        | (refine vpur_i hT0 ?_; conv => whnf)
        | fail)
      exact ⟨rfl, rfl⟩
    have q3 : (!ieq ((numP s).stop : Int) (s.length : Int)) = false := hn1 _ (by rw [ieq_t, h1])
    by_cases h2 : 300 < s.length
    · have q4 : ilt (Int.ofNat 300) (s.length : Int) = true := by rw [ilt_t, ofn]; omega
      rw [if_pos (.inr (.inr h2))] at hV
      subst hV
      repeat' (first
        | (refine vb_t rfl ?_; conv => whnf)
        | (refine vb_f rfl ?_; conv => whnf)
        | (refine vb_t (by assumption) ?_; conv => whnf)
        | (refine vb_f (by assumption) ?_; conv => whnf)
        | (refine vpur_i hT0 ?_; conv => whnf)
        | fail)
      exact ⟨rfl, rfl⟩
    have q4 : ilt (Int.ofNat 300) (s.length : Int) = false := by rw [ilt_f, ofn]; omega
    rw [if_neg (by omega)] at hV
    repeat' (first
      | (refine vb_t rfl ?_; conv => whnf)
      | (refine vb_f rfl ?_; conv => whnf)
      | (refine vb_t (by assumption) ?_; conv => whnf)
      | (refine vb_f (by assumption) ?_; conv => whnf)
      | (refine vpur_i hT0 ?_; conv => whnf)
      | fail)
    have hA : pA s ≤ 1 := by unfold pA sgnN; split <;> omega
    have hW : digN s (pA s) ≤ s.length := by have := digs_le2 s (pA s); rw [digs_len] at this; exact this
    have hP := pP_le s
    have e1 : iadd .i64 (pA s : Int) (digN s (pA s) : Int) = ((pA s + digN s (pA s) : Nat) : Int) := iaddN (by omega)
    have e2 : iadd .i64 (iadd .i64 (pA s : Int) (digN s (pA s) : Int)) ((pP s).length : Int) = ((pA s + digN s (pA s) + (pP s).length : Nat) : Int) := by rw [e1, iaddN (by omega)]
    obtain ⟨N, hN⟩ : ∃ N, pA s + digN s (pA s) + (pP s).length = N := ⟨_, rfl⟩
    rw [hN] at e2
    refine vloop_eq2 (fr' := [(0, S s), (1, I (sc : Int)), (4, I (Int.ofNat 0)), (5, I (Int.ofNat 0)), (6, I (pA s : Int)), (7, I (digN s (pA s) : Int)), (8, I ((pP s).length : Int)), (9, I (rpX s : Int)), (11, natsV none), (12, I ((N : Int) - ((0 : Nat) : Int)))]) (h' := natsH .mine 3 none) ?_ rfl ?_
    · exact cons_eq rfl (cons_eq rfl (cons_eq rfl (cons_eq rfl (cons_eq rfl (cons_eq rfl (cons_eq rfl (cons_eq rfl (cons_eq rfl (cons_eq (slot_eq (I_eq (e2.trans (by omega)))) rfl)))))))))
    refine vloop_by (σ := { x : Nat × Option (Nat × List Nat) // x.1 ≤ digN s (pA s) + (pP s).length + 1 ∧ nats x.2 = lastD s (seen s x.1) })
      (fun x => [(0, S s), (1, I (sc : Int)), (4, I (Int.ofNat 0)), (5, I (Int.ofNat 0)), (6, I (pA s : Int)), (7, I (digN s (pA s) : Int)), (8, I ((pP s).length : Int)), (9, I (rpX s : Int)), (11, natsV x.1.2), (12, I ((N : Int) - (x.1.1 : Int)))])
      (fun x => natsH .mine 3 x.1.2) (fun x => digN s (pA s) + (pP s).length + 1 - x.1.1) ?_ ⟨(0, none), Nat.zero_le _, by
        have : seen s 0 = 0 := by unfold seen; rw [if_pos (Nat.zero_le _)]
        show [] = lastD s (seen s 0)
        rw [this, lastD_zero]⟩
    rintro ⟨⟨k, x⟩, hk, hx⟩
    simp only at hk hx
    have hdown : isub .i64 ((N : Int) - (k : Int)) (Int.ofNat 1) = (N : Int) - ((k + 1 : Nat) : Int) := by rw [ofn, isub64 (by omega) (by omega)]; omega
    by_cases hkle : k ≤ digN s (pA s) + (pP s).length
    · rcases x with _ | ⟨g, l⟩
      · conv => whnf
        by_cases hkP : k = (pP s).length
        · have hik : (N : Int) - (k : Int) = ((pA s + digN s (pA s) : Nat) : Int) := by omega
          have q1 : ile (pA s : Int) ((N : Int) - (k : Int)) = true := by rw [ile_t]; omega
          have q4 : ilt ((N : Int) - (k : Int)) (iadd .i64 (pA s : Int) (digN s (pA s) : Int)) = false := by rw [e1, ilt_f]; omega
          have q5 : ilt (iadd .i64 (pA s : Int) (digN s (pA s) : Int)) ((N : Int) - (k : Int)) = false := by rw [e1, ilt_f]; omega
          have hx2 : nats (none) = lastD s (seen s (k + 1)) := by rw [hkP, seen_at, ← hkP]; exact hx
          by_cases hil : pA s + digN s (pA s) < s.length
          · have q2 : ilt ((N : Int) - (k : Int)) (s.length : Int) = true := by rw [ilt_t]; omega
            obtain ⟨c, hc⟩ : ∃ c, s[pA s + digN s (pA s)]? = some c := ⟨s[pA s + digN s (pA s)], List.getElem?_eq_getElem hil⟩
            have hg : iget s ((N : Int) - (k : Int)) = some c := by rw [hik]; exact iget_t hc
            cases hcd : isDig c with
            | true =>
              have hdg := rdigit_ok c
              rw [hcd] at hdg
              repeat' (first
                | (refine vb_t rfl ?_; conv => whnf)
                | (refine vb_f rfl ?_; conv => whnf)
                | (refine vb_t (by assumption) ?_; conv => whnf)
                | (refine vb_f (by assumption) ?_; conv => whnf)
                | (refine vo_i hg ?_; conv => whnf)
                | (refine vpur_i hdg ?_; conv => whnf)
                | fail)
              exact ⟨⟨(k + 1, none), by simp only; omega, hx2⟩, by simp only; omega, cons_eq rfl (cons_eq rfl (cons_eq rfl (cons_eq rfl (cons_eq rfl (cons_eq rfl (cons_eq rfl (cons_eq rfl (cons_eq rfl (cons_eq (slot_eq (I_eq hdown)) rfl))))))))), rfl, rfl, rfl⟩
            | false =>
              have hdg := rdigit_ok c
              rw [hcd] at hdg
              repeat' (first
                | (refine vb_t rfl ?_; conv => whnf)
                | (refine vb_f rfl ?_; conv => whnf)
                | (refine vb_t (by assumption) ?_; conv => whnf)
                | (refine vb_f (by assumption) ?_; conv => whnf)
                | (refine vo_i hg ?_; conv => whnf)
                | (refine vpur_i hdg ?_; conv => whnf)
                | fail)
              exact ⟨⟨(k + 1, none), by simp only; omega, hx2⟩, by simp only; omega, cons_eq rfl (cons_eq rfl (cons_eq rfl (cons_eq rfl (cons_eq rfl (cons_eq rfl (cons_eq rfl (cons_eq rfl (cons_eq rfl (cons_eq (slot_eq (I_eq hdown)) rfl))))))))), rfl, rfl, rfl⟩
          · have q2 : ilt ((N : Int) - (k : Int)) (s.length : Int) = false := by rw [ilt_f]; omega
            repeat' (first
              | (refine vb_t rfl ?_; conv => whnf)
              | (refine vb_f rfl ?_; conv => whnf)
              | (refine vb_t (by assumption) ?_; conv => whnf)
              | (refine vb_f (by assumption) ?_; conv => whnf)
              | fail)
            exact ⟨⟨(k + 1, none), by simp only; omega, hx2⟩, by simp only; omega, cons_eq rfl (cons_eq rfl (cons_eq rfl (cons_eq rfl (cons_eq rfl (cons_eq rfl (cons_eq rfl (cons_eq rfl (cons_eq rfl (cons_eq (slot_eq (I_eq hdown)) rfl))))))))), rfl, rfl, rfl⟩
        have hat := at_step hkle hkP
        have hsl := seen_lt hkle hkP
        obtain ⟨c, hc⟩ : ∃ c, (allD s)[(allD s).length - 1 - seen s k]? = some c := ⟨(allD s)[(allD s).length - 1 - seen s k]'(by omega), List.getElem?_eq_getElem (by omega)⟩
        have hla := lastD_succ hsl hc
        rw [← seen_succ hkP] at hla
        rw [hat] at hc
        have hcd := allD_dig s c (List.mem_of_getElem? (hat.trans hc))
        have hdg := rdigit_ok c
        rw [hcd] at hdg
        have hil := (List.getElem?_eq_some_iff.1 hc).1
        have hik : (N : Int) - (k : Int) = ((pA s + digN s (pA s) + (pP s).length - k : Nat) : Int) := by omega
        have hg : iget s ((N : Int) - (k : Int)) = some c := by rw [hik]; exact iget_t hc
        have q1 : ile (pA s : Int) ((N : Int) - (k : Int)) = true := by rw [ile_t]; omega
        have q2 : ilt ((N : Int) - (k : Int)) (s.length : Int) = true := by rw [ilt_t]; omega
        have q7 : ile ((N : Int) - (k : Int)) (iadd .i64 (iadd .i64 (pA s : Int) (digN s (pA s) : Int)) ((pP s).length : Int)) = true := by rw [e2, ile_t]; omega
        have hnx : nats (some (0, [(dgt c).toNat])) = lastD s (seen s (k + 1)) := by rw [hla, ← hx]; rfl
        have hq4 : (ilt ((N : Int) - (k : Int)) (iadd .i64 (pA s : Int) (digN s (pA s) : Int)) = true) ∨ (ilt ((N : Int) - (k : Int)) (iadd .i64 (pA s : Int) (digN s (pA s) : Int)) = false ∧ ilt (iadd .i64 (pA s : Int) (digN s (pA s) : Int)) ((N : Int) - (k : Int)) = true) := by
          rw [e1, ilt_t, ilt_t, ilt_f]; omega
        rcases hq4 with q4 | ⟨q4, q5⟩
        · repeat' (first
            | (refine vb_t rfl ?_; conv => whnf)
            | (refine vb_f rfl ?_; conv => whnf)
            | (refine vb_t (by assumption) ?_; conv => whnf)
            | (refine vb_f (by assumption) ?_; conv => whnf)
            | (refine vo_i hg ?_; conv => whnf)
            | (refine vpur_i hdg ?_; conv => whnf)
            | (refine vb_t (room_t (by simp <;> omega)) ?_; conv => whnf)
            | fail)
          exact ⟨⟨(k + 1, some (0, [(dgt c).toNat])), by simp only; omega, hnx⟩, by simp only; omega, cons_eq rfl (cons_eq rfl (cons_eq rfl (cons_eq rfl (cons_eq rfl (cons_eq rfl (cons_eq rfl (cons_eq rfl (cons_eq rfl (cons_eq (slot_eq (I_eq hdown)) rfl))))))))), cons_eq (arr_eq (map_snoc [] _ _ (dgt_val hcd))) rfl, rfl, rfl⟩
        · repeat' (first
            | (refine vb_t rfl ?_; conv => whnf)
            | (refine vb_f rfl ?_; conv => whnf)
            | (refine vb_t (by assumption) ?_; conv => whnf)
            | (refine vb_f (by assumption) ?_; conv => whnf)
            | (refine vo_i hg ?_; conv => whnf)
            | (refine vpur_i hdg ?_; conv => whnf)
            | (refine vb_t (room_t (by simp <;> omega)) ?_; conv => whnf)
            | fail)
          exact ⟨⟨(k + 1, some (0, [(dgt c).toNat])), by simp only; omega, hnx⟩, by simp only; omega, cons_eq rfl (cons_eq rfl (cons_eq rfl (cons_eq rfl (cons_eq rfl (cons_eq rfl (cons_eq rfl (cons_eq rfl (cons_eq rfl (cons_eq (slot_eq (I_eq hdown)) rfl))))))))), cons_eq (arr_eq (map_snoc [] _ _ (dgt_val hcd))) rfl, rfl, rfl⟩
      · have hll : l.length ≤ 100000 := by
          have h3 := congrArg List.length hx
          have h4 : (lastD s (seen s k)).length ≤ (allD s).length := by unfold lastD; simp
          rw [allD_len] at h4
          change l.length = _ at h3
          omega
        have hq : ieq (l.length : Int) ((l.map natRow).length : Int) = true := by rw [ieq_t]; simp
        have hgg : Nat.beq g g = true := by simp
        conv => whnf
        by_cases hkP : k = (pP s).length
        · have hik : (N : Int) - (k : Int) = ((pA s + digN s (pA s) : Nat) : Int) := by omega
          have q1 : ile (pA s : Int) ((N : Int) - (k : Int)) = true := by rw [ile_t]; omega
          have q4 : ilt ((N : Int) - (k : Int)) (iadd .i64 (pA s : Int) (digN s (pA s) : Int)) = false := by rw [e1, ilt_f]; omega
          have q5 : ilt (iadd .i64 (pA s : Int) (digN s (pA s) : Int)) ((N : Int) - (k : Int)) = false := by rw [e1, ilt_f]; omega
          have hx2 : nats (some (g, l)) = lastD s (seen s (k + 1)) := by rw [hkP, seen_at, ← hkP]; exact hx
          by_cases hil : pA s + digN s (pA s) < s.length
          · have q2 : ilt ((N : Int) - (k : Int)) (s.length : Int) = true := by rw [ilt_t]; omega
            obtain ⟨c, hc⟩ : ∃ c, s[pA s + digN s (pA s)]? = some c := ⟨s[pA s + digN s (pA s)], List.getElem?_eq_getElem hil⟩
            have hg : iget s ((N : Int) - (k : Int)) = some c := by rw [hik]; exact iget_t hc
            cases hcd : isDig c with
            | true =>
              have hdg := rdigit_ok c
              rw [hcd] at hdg
              repeat' (first
                | (refine vb_t rfl ?_; conv => whnf)
                | (refine vb_f rfl ?_; conv => whnf)
                | (refine vb_t (by assumption) ?_; conv => whnf)
                | (refine vb_f (by assumption) ?_; conv => whnf)
                | (refine vo_i hg ?_; conv => whnf)
                | (refine vpur_i hdg ?_; conv => whnf)
                | fail)
              exact ⟨⟨(k + 1, some (g, l)), by simp only; omega, hx2⟩, by simp only; omega, cons_eq rfl (cons_eq rfl (cons_eq rfl (cons_eq rfl (cons_eq rfl (cons_eq rfl (cons_eq rfl (cons_eq rfl (cons_eq rfl (cons_eq (slot_eq (I_eq hdown)) rfl))))))))), rfl, rfl, rfl⟩
            | false =>
              have hdg := rdigit_ok c
              rw [hcd] at hdg
              repeat' (first
                | (refine vb_t rfl ?_; conv => whnf)
                | (refine vb_f rfl ?_; conv => whnf)
                | (refine vb_t (by assumption) ?_; conv => whnf)
                | (refine vb_f (by assumption) ?_; conv => whnf)
                | (refine vo_i hg ?_; conv => whnf)
                | (refine vpur_i hdg ?_; conv => whnf)
                | fail)
              exact ⟨⟨(k + 1, some (g, l)), by simp only; omega, hx2⟩, by simp only; omega, cons_eq rfl (cons_eq rfl (cons_eq rfl (cons_eq rfl (cons_eq rfl (cons_eq rfl (cons_eq rfl (cons_eq rfl (cons_eq rfl (cons_eq (slot_eq (I_eq hdown)) rfl))))))))), rfl, rfl, rfl⟩
          · have q2 : ilt ((N : Int) - (k : Int)) (s.length : Int) = false := by rw [ilt_f]; omega
            repeat' (first
              | (refine vb_t rfl ?_; conv => whnf)
              | (refine vb_f rfl ?_; conv => whnf)
              | (refine vb_t (by assumption) ?_; conv => whnf)
              | (refine vb_f (by assumption) ?_; conv => whnf)
              | fail)
            exact ⟨⟨(k + 1, some (g, l)), by simp only; omega, hx2⟩, by simp only; omega, cons_eq rfl (cons_eq rfl (cons_eq rfl (cons_eq rfl (cons_eq rfl (cons_eq rfl (cons_eq rfl (cons_eq rfl (cons_eq rfl (cons_eq (slot_eq (I_eq hdown)) rfl))))))))), rfl, rfl, rfl⟩
        have hat := at_step hkle hkP
        have hsl := seen_lt hkle hkP
        obtain ⟨c, hc⟩ : ∃ c, (allD s)[(allD s).length - 1 - seen s k]? = some c := ⟨(allD s)[(allD s).length - 1 - seen s k]'(by omega), List.getElem?_eq_getElem (by omega)⟩
        have hla := lastD_succ hsl hc
        rw [← seen_succ hkP] at hla
        rw [hat] at hc
        have hcd := allD_dig s c (List.mem_of_getElem? (hat.trans hc))
        have hdg := rdigit_ok c
        rw [hcd] at hdg
        have hil := (List.getElem?_eq_some_iff.1 hc).1
        have hik : (N : Int) - (k : Int) = ((pA s + digN s (pA s) + (pP s).length - k : Nat) : Int) := by omega
        have hg : iget s ((N : Int) - (k : Int)) = some c := by rw [hik]; exact iget_t hc
        have q1 : ile (pA s : Int) ((N : Int) - (k : Int)) = true := by rw [ile_t]; omega
        have q2 : ilt ((N : Int) - (k : Int)) (s.length : Int) = true := by rw [ilt_t]; omega
        have q7 : ile ((N : Int) - (k : Int)) (iadd .i64 (iadd .i64 (pA s : Int) (digN s (pA s) : Int)) ((pP s).length : Int)) = true := by rw [e2, ile_t]; omega
        have hnx : nats (some (g + 1, l ++ [(dgt c).toNat])) = lastD s (seen s (k + 1)) := by rw [hla, ← hx]; rfl
        have hq4 : (ilt ((N : Int) - (k : Int)) (iadd .i64 (pA s : Int) (digN s (pA s) : Int)) = true) ∨ (ilt ((N : Int) - (k : Int)) (iadd .i64 (pA s : Int) (digN s (pA s) : Int)) = false ∧ ilt (iadd .i64 (pA s : Int) (digN s (pA s) : Int)) ((N : Int) - (k : Int)) = true) := by
          rw [e1, ilt_t, ilt_t, ilt_f]; omega
        rcases hq4 with q4 | ⟨q4, q5⟩
        · repeat' (first
            | (refine vb_t rfl ?_; conv => whnf)
            | (refine vb_f rfl ?_; conv => whnf)
            | (refine vb_t (by assumption) ?_; conv => whnf)
            | (refine vb_f (by assumption) ?_; conv => whnf)
            | (refine vo_i hg ?_; conv => whnf)
            | (refine vpur_i hdg ?_; conv => whnf)
            | (refine vb_t (room_t (by simp <;> omega)) ?_; conv => whnf)
            | fail)
          exact ⟨⟨(k + 1, some (g + 1, l ++ [(dgt c).toNat])), by simp only; omega, hnx⟩, by simp only; omega, cons_eq rfl (cons_eq rfl (cons_eq rfl (cons_eq rfl (cons_eq rfl (cons_eq rfl (cons_eq rfl (cons_eq rfl (cons_eq (slot_eq (osl_eq rfl (by simp))) (cons_eq (slot_eq (I_eq hdown)) rfl))))))))), cons_eq (arr_eq (map_snoc l _ _ (dgt_val hcd))) rfl, rfl, rfl⟩
        · repeat' (first
            | (refine vb_t rfl ?_; conv => whnf)
            | (refine vb_f rfl ?_; conv => whnf)
            | (refine vb_t (by assumption) ?_; conv => whnf)
            | (refine vb_f (by assumption) ?_; conv => whnf)
            | (refine vo_i hg ?_; conv => whnf)
            | (refine vpur_i hdg ?_; conv => whnf)
            | (refine vb_t (room_t (by simp <;> omega)) ?_; conv => whnf)
            | fail)
          exact ⟨⟨(k + 1, some (g + 1, l ++ [(dgt c).toNat])), by simp only; omega, hnx⟩, by simp only; omega, cons_eq rfl (cons_eq rfl (cons_eq rfl (cons_eq rfl (cons_eq rfl (cons_eq rfl (cons_eq rfl (cons_eq rfl (cons_eq (slot_eq (osl_eq rfl (by simp))) (cons_eq (slot_eq (I_eq hdown)) rfl))))))))), cons_eq (arr_eq (map_snoc l _ _ (dgt_val hcd))) rfl, rfl, rfl⟩
    obtain rfl : k = digN s (pA s) + (pP s).length + 1 := by omega
    rw [seen_end] at hx
    have hne : 0 < (allD s).length := by
      rcases Nat.eq_zero_or_pos (allD s).length with h | h
      · exact (hb (by have h5 := List.length_eq_zero_iff.1 h; unfold allD at h5; exact List.append_eq_nil_iff.1 h5)).elim
      · exact h
    have hlen : (lastD s (allD s).length).length = (allD s).length := by unfold lastD; simp
    have q1 : ile (pA s : Int) ((N : Int) - ((digN s (pA s) + (pP s).length + 1 : Nat) : Int)) = false := by rw [ile_f]; omega
    rcases x with _ | ⟨g, l⟩
    · exfalso
      have h3 := congrArg List.length hx
      rw [hlen] at h3
      change 0 = _ at h3
      omega
    change l = _ at hx
    have hll : l.length = (allD s).length := by rw [hx, hlen]
    have hl0 : l ≠ [] := fun e => by rw [e] at hll; simp at hll; omega
    have hlv : valR l = valD (dgs (numP s)) := by
      obtain ⟨w1, w2, _⟩ := numP_w hb
      rw [hx, lastD_all, valR_rev]
      unfold dgs allD; rw [w1, w2]
    obtain ⟨M, hMS, hM1, hM2, hM3⟩ := rscaled_ok l hl0 (by rw [hx]; exact lastD_digR _ _) (by rw [hll, allD_len]; omega) sc (by omega)
    have hgg : Nat.beq g g = true := by simp
    have he : (l.map natRow).isEmpty = false := by
      cases l with
      | nil => exact (hl0 rfl).elim
      | cons c t => rfl
    have hdr : ((l.map natRow).take l.length).drop 0 = l.map natRow := by rw [List.drop_zero, List.take_of_length_le (by simp)]
    have hE := expD_le (numP s).exp
    have hE2 : -1000 ≤ expV (numP s).exp ∧ expV (numP s).exp ≤ 1000 := by unfold expV; split <;> omega
    have hbe : isub .i64 ((pP s).length : Int) (expV (numP s).exp) = ((numP s).part.length : Int) - expV (numP s).exp := by rw [(numP_w hb).2.1, isub64 (by omega) (by omega)]
    have hpl : (numP s).part.length ≤ s.length := (numP_facts s).2.1
    have hR := rround_ok M hM1 (by omega) (((numP s).part.length : Int) - expV (numP s).exp) (by omega) (by omega)
    rw [hM2, hlv, ← hbe] at hR
    have hX := rexp_num s (by omega) h1 hb
    have hs0 : 0 < s.length := by omega
    obtain ⟨c0, hc0⟩ : ∃ c, s[0]? = some c := ⟨s[0], List.getElem?_eq_getElem hs0⟩
    have hg0 : iget s (Int.ofNat 0) = some c0 := iget_t hc0
    have hbel : (numP s).below = decide (c0 = 45) := by rw [(numP_w hb).2.2]; unfold sgnB; rw [hc0]; simp
    clear hM1 hM2 hlv hT0 hx hlen hll hl0 hne hc0 hdown
    obtain ⟨X, hXe⟩ : ∃ X, valD (dgs (numP s)) * sc = X := ⟨_, rfl⟩
    rw [← hbe, hXe] at hV
    rw [hXe] at hR
    by_cases hM : rndN X (isub .i64 ((pP s).length : Int) (expV (numP s).exp)) ≤ 68719476736
    · have hRe := rndM_eq hM
      rw [hRe] at hR
      rw [if_pos hM] at hV
      obtain ⟨R, hRR⟩ : ∃ R, rndN X (isub .i64 ((pP s).length : Int) (expV (numP s).exp)) = R := ⟨_, rfl⟩
      rw [hRR] at hR hV hM
      have q6 : ilt (Int.ofNat 68719476736) (R : Int) = false := by rw [ilt_f, ofn]; omega
      by_cases h45 : c0 = 45
      · have q5 : ieq (c0.toNat : Int) (Int.ofNat 45) = true := ieq_c 45 rfl h45
        rw [hbel, decide_eq_true h45, if_pos rfl] at hV
        subst hV
        conv => whnf
        repeat' (first
          | (refine vb_t rfl ?_; conv => whnf)
          | (refine vb_f rfl ?_; conv => whnf)
          | (refine vb_t (by assumption) ?_; conv => whnf)
          | (refine vb_f (by assumption) ?_; conv => whnf)
          | (rw [hdr]; conv => whnf)
          | (refine vpur_i hMS ?_; conv => whnf)
          | (refine vpur_i hX ?_; conv => whnf)
          | (refine vpur_i hR ?_; conv => whnf)
          | (refine vo_i hg0 ?_; conv => whnf)
          | fail)
        refine ⟨congrArg CR.ret ?_, rfl⟩
        show AV.tup [I (isub .i64 (Int.ofNat 0) (R : Int)), I 0] = .tup [I (-(R : Int)), I 0]
        rw [ofn, isub64 (by omega) (by omega), Int.natCast_zero, Int.zero_sub]
      · have q5 : ieq (c0.toNat : Int) (Int.ofNat 45) = false := ieq_nc 45 rfl h45
        rw [hbel, decide_eq_false h45, if_neg (by decide)] at hV
        subst hV
        conv => whnf
        repeat' (first
          | (refine vb_t rfl ?_; conv => whnf)
          | (refine vb_f rfl ?_; conv => whnf)
          | (refine vb_t (by assumption) ?_; conv => whnf)
          | (refine vb_f (by assumption) ?_; conv => whnf)
          | (rw [hdr]; conv => whnf)
          | (refine vpur_i hMS ?_; conv => whnf)
          | (refine vpur_i hX ?_; conv => whnf)
          | (refine vpur_i hR ?_; conv => whnf)
          | (refine vo_i hg0 ?_; conv => whnf)
          | fail)
        exact ⟨rfl, rfl⟩
    · rw [if_neg hM] at hV
      subst hV
      rw [← rndM_le] at hM
      obtain ⟨R, hRR⟩ : ∃ R, rndM X (isub .i64 ((pP s).length : Int) (expV (numP s).exp)) = R := ⟨_, rfl⟩
      rw [hRR] at hR hM
      have q6 : ilt (Int.ofNat 68719476736) (R : Int) = true := by rw [ilt_t, ofn]; omega
      conv => whnf
      repeat' (first
        | (refine vb_t rfl ?_; conv => whnf)
        | (refine vb_f rfl ?_; conv => whnf)
        | (refine vb_t (by assumption) ?_; conv => whnf)
        | (refine vb_f (by assumption) ?_; conv => whnf)
        | (rw [hdr]; conv => whnf)
        | (refine vpur_i hMS ?_; conv => whnf)
        | (refine vpur_i hX ?_; conv => whnf)
        | (refine vpur_i hR ?_; conv => whnf)
        | (refine vo_i hg0 ?_; conv => whnf)
        | fail)
      exact ⟨rfl, rfl⟩
  · have q1' := hn2 _ q1
    have q2' := hn2 _ q2
    have q3' := hn1 _ q3
    clear q1 q2 q3
    repeat' (first
      | (refine vb_t rfl ?_; conv => whnf)
      | (refine vb_f rfl ?_; conv => whnf)
      | (refine vb_t (by assumption) ?_; conv => whnf)
      | (refine vb_f (by assumption) ?_; conv => whnf)
      | fail)
    by_cases h0 : (numP s).stop = 0
    · have q2 : ieq ((numP s).stop : Int) (Int.ofNat 0) = true := by rw [ieq_t, h0]; rfl
      rw [if_pos (.inl h0)] at hV
      subst hV
      repeat' (first
        | (refine vb_t rfl ?_; conv => whnf)
        | (refine vb_f rfl ?_; conv => whnf)
        | (refine vb_t (by assumption) ?_; conv => whnf)
        | (refine vb_f (by assumption) ?_; conv => whnf)
        | (refine vpur_i hT0 ?_; conv => whnf)
        | fail)
      exact ⟨rfl, rfl⟩
    have q2 : ieq ((numP s).stop : Int) (Int.ofNat 0) = false := by rw [ieq_f, ofn]; omega
    by_cases h1 : (numP s).stop = s.length
    case neg =>
      have q3 : (!ieq ((numP s).stop : Int) (s.length : Int)) = true := hn2 _ (by rw [ieq_f]; omega)
      rw [if_pos (.inr (.inl h1))] at hV
      subst hV
      repeat' (first
        | (refine vb_t rfl ?_; conv => whnf)
        | (refine vb_f rfl ?_; conv => whnf)
        | (refine vb_t (by assumption) ?_; conv => whnf)
        | (refine vb_f (by assumption) ?_; conv => whnf)
        | (refine vpur_i hT0 ?_; conv => whnf)
        | fail)
      exact ⟨rfl, rfl⟩
    have q3 : (!ieq ((numP s).stop : Int) (s.length : Int)) = false := hn1 _ (by rw [ieq_t, h1])
    by_cases h2 : 300 < s.length
    · have q4 : ilt (Int.ofNat 300) (s.length : Int) = true := by rw [ilt_t, ofn]; omega
      rw [if_pos (.inr (.inr h2))] at hV
      subst hV
      repeat' (first
        | (refine vb_t rfl ?_; conv => whnf)
        | (refine vb_f rfl ?_; conv => whnf)
        | (refine vb_t (by assumption) ?_; conv => whnf)
        | (refine vb_f (by assumption) ?_; conv => whnf)
        | (refine vpur_i hT0 ?_; conv => whnf)
        | fail)
      exact ⟨rfl, rfl⟩
    have q4 : ilt (Int.ofNat 300) (s.length : Int) = false := by rw [ilt_f, ofn]; omega
    rw [if_neg (by omega)] at hV
    repeat' (first
      | (refine vb_t rfl ?_; conv => whnf)
      | (refine vb_f rfl ?_; conv => whnf)
      | (refine vb_t (by assumption) ?_; conv => whnf)
      | (refine vb_f (by assumption) ?_; conv => whnf)
      | (refine vpur_i hT0 ?_; conv => whnf)
      | fail)
    have hA : pA s ≤ 1 := by unfold pA sgnN; split <;> omega
    have hW : digN s (pA s) ≤ s.length := by have := digs_le2 s (pA s); rw [digs_len] at this; exact this
    have hP := pP_le s
    have e1 : iadd .i64 (pA s : Int) (digN s (pA s) : Int) = ((pA s + digN s (pA s) : Nat) : Int) := iaddN (by omega)
    have e2 : iadd .i64 (iadd .i64 (pA s : Int) (digN s (pA s) : Int)) ((pP s).length : Int) = ((pA s + digN s (pA s) + (pP s).length : Nat) : Int) := by rw [e1, iaddN (by omega)]
    obtain ⟨N, hN⟩ : ∃ N, pA s + digN s (pA s) + (pP s).length = N := ⟨_, rfl⟩
    rw [hN] at e2
    refine vloop_eq2 (fr' := [(0, S s), (1, I (sc : Int)), (4, I (Int.ofNat 0)), (5, I (Int.ofNat 0)), (6, I (pA s : Int)), (7, I (digN s (pA s) : Int)), (8, I ((pP s).length : Int)), (9, I (rpX s : Int)), (11, natsV none), (12, I ((N : Int) - ((0 : Nat) : Int)))]) (h' := natsH .mine 3 none) ?_ rfl ?_
    · exact cons_eq rfl (cons_eq rfl (cons_eq rfl (cons_eq rfl (cons_eq rfl (cons_eq rfl (cons_eq rfl (cons_eq rfl (cons_eq rfl (cons_eq (slot_eq (I_eq (e2.trans (by omega)))) rfl)))))))))
    refine vloop_by (σ := { x : Nat × Option (Nat × List Nat) // x.1 ≤ digN s (pA s) + (pP s).length + 1 ∧ nats x.2 = lastD s (seen s x.1) })
      (fun x => [(0, S s), (1, I (sc : Int)), (4, I (Int.ofNat 0)), (5, I (Int.ofNat 0)), (6, I (pA s : Int)), (7, I (digN s (pA s) : Int)), (8, I ((pP s).length : Int)), (9, I (rpX s : Int)), (11, natsV x.1.2), (12, I ((N : Int) - (x.1.1 : Int)))])
      (fun x => natsH .mine 3 x.1.2) (fun x => digN s (pA s) + (pP s).length + 1 - x.1.1) ?_ ⟨(0, none), Nat.zero_le _, by
        have : seen s 0 = 0 := by unfold seen; rw [if_pos (Nat.zero_le _)]
        show [] = lastD s (seen s 0)
        rw [this, lastD_zero]⟩
    rintro ⟨⟨k, x⟩, hk, hx⟩
    simp only at hk hx
    have hdown : isub .i64 ((N : Int) - (k : Int)) (Int.ofNat 1) = (N : Int) - ((k + 1 : Nat) : Int) := by rw [ofn, isub64 (by omega) (by omega)]; omega
    by_cases hkle : k ≤ digN s (pA s) + (pP s).length
    · rcases x with _ | ⟨g, l⟩
      · conv => whnf
        by_cases hkP : k = (pP s).length
        · have hik : (N : Int) - (k : Int) = ((pA s + digN s (pA s) : Nat) : Int) := by omega
          have q1 : ile (pA s : Int) ((N : Int) - (k : Int)) = true := by rw [ile_t]; omega
          have q4 : ilt ((N : Int) - (k : Int)) (iadd .i64 (pA s : Int) (digN s (pA s) : Int)) = false := by rw [e1, ilt_f]; omega
          have q5 : ilt (iadd .i64 (pA s : Int) (digN s (pA s) : Int)) ((N : Int) - (k : Int)) = false := by rw [e1, ilt_f]; omega
          have hx2 : nats (none) = lastD s (seen s (k + 1)) := by rw [hkP, seen_at, ← hkP]; exact hx
          by_cases hil : pA s + digN s (pA s) < s.length
          · have q2 : ilt ((N : Int) - (k : Int)) (s.length : Int) = true := by rw [ilt_t]; omega
            obtain ⟨c, hc⟩ : ∃ c, s[pA s + digN s (pA s)]? = some c := ⟨s[pA s + digN s (pA s)], List.getElem?_eq_getElem hil⟩
            have hg : iget s ((N : Int) - (k : Int)) = some c := by rw [hik]; exact iget_t hc
            cases hcd : isDig c with
            | true =>
              have hdg := rdigit_ok c
              rw [hcd] at hdg
              repeat' (first
                | (refine vb_t rfl ?_; conv => whnf)
                | (refine vb_f rfl ?_; conv => whnf)
                | (refine vb_t (by assumption) ?_; conv => whnf)
                | (refine vb_f (by assumption) ?_; conv => whnf)
                | (refine vo_i hg ?_; conv => whnf)
                | (refine vpur_i hdg ?_; conv => whnf)
                | fail)
              exact ⟨⟨(k + 1, none), by simp only; omega, hx2⟩, by simp only; omega, cons_eq rfl (cons_eq rfl (cons_eq rfl (cons_eq rfl (cons_eq rfl (cons_eq rfl (cons_eq rfl (cons_eq rfl (cons_eq rfl (cons_eq (slot_eq (I_eq hdown)) rfl))))))))), rfl, rfl, rfl⟩
            | false =>
              have hdg := rdigit_ok c
              rw [hcd] at hdg
              repeat' (first
                | (refine vb_t rfl ?_; conv => whnf)
                | (refine vb_f rfl ?_; conv => whnf)
                | (refine vb_t (by assumption) ?_; conv => whnf)
                | (refine vb_f (by assumption) ?_; conv => whnf)
                | (refine vo_i hg ?_; conv => whnf)
                | (refine vpur_i hdg ?_; conv => whnf)
                | fail)
              exact ⟨⟨(k + 1, none), by simp only; omega, hx2⟩, by simp only; omega, cons_eq rfl (cons_eq rfl (cons_eq rfl (cons_eq rfl (cons_eq rfl (cons_eq rfl (cons_eq rfl (cons_eq rfl (cons_eq rfl (cons_eq (slot_eq (I_eq hdown)) rfl))))))))), rfl, rfl, rfl⟩
          · have q2 : ilt ((N : Int) - (k : Int)) (s.length : Int) = false := by rw [ilt_f]; omega
            repeat' (first
              | (refine vb_t rfl ?_; conv => whnf)
              | (refine vb_f rfl ?_; conv => whnf)
              | (refine vb_t (by assumption) ?_; conv => whnf)
              | (refine vb_f (by assumption) ?_; conv => whnf)
              | fail)
            exact ⟨⟨(k + 1, none), by simp only; omega, hx2⟩, by simp only; omega, cons_eq rfl (cons_eq rfl (cons_eq rfl (cons_eq rfl (cons_eq rfl (cons_eq rfl (cons_eq rfl (cons_eq rfl (cons_eq rfl (cons_eq (slot_eq (I_eq hdown)) rfl))))))))), rfl, rfl, rfl⟩
        have hat := at_step hkle hkP
        have hsl := seen_lt hkle hkP
        obtain ⟨c, hc⟩ : ∃ c, (allD s)[(allD s).length - 1 - seen s k]? = some c := ⟨(allD s)[(allD s).length - 1 - seen s k]'(by omega), List.getElem?_eq_getElem (by omega)⟩
        have hla := lastD_succ hsl hc
        rw [← seen_succ hkP] at hla
        rw [hat] at hc
        have hcd := allD_dig s c (List.mem_of_getElem? (hat.trans hc))
        have hdg := rdigit_ok c
        rw [hcd] at hdg
        have hil := (List.getElem?_eq_some_iff.1 hc).1
        have hik : (N : Int) - (k : Int) = ((pA s + digN s (pA s) + (pP s).length - k : Nat) : Int) := by omega
        have hg : iget s ((N : Int) - (k : Int)) = some c := by rw [hik]; exact iget_t hc
        have q1 : ile (pA s : Int) ((N : Int) - (k : Int)) = true := by rw [ile_t]; omega
        have q2 : ilt ((N : Int) - (k : Int)) (s.length : Int) = true := by rw [ilt_t]; omega
        have q7 : ile ((N : Int) - (k : Int)) (iadd .i64 (iadd .i64 (pA s : Int) (digN s (pA s) : Int)) ((pP s).length : Int)) = true := by rw [e2, ile_t]; omega
        have hnx : nats (some (0, [(dgt c).toNat])) = lastD s (seen s (k + 1)) := by rw [hla, ← hx]; rfl
        have hq4 : (ilt ((N : Int) - (k : Int)) (iadd .i64 (pA s : Int) (digN s (pA s) : Int)) = true) ∨ (ilt ((N : Int) - (k : Int)) (iadd .i64 (pA s : Int) (digN s (pA s) : Int)) = false ∧ ilt (iadd .i64 (pA s : Int) (digN s (pA s) : Int)) ((N : Int) - (k : Int)) = true) := by
          rw [e1, ilt_t, ilt_t, ilt_f]; omega
        rcases hq4 with q4 | ⟨q4, q5⟩
        · repeat' (first
            | (refine vb_t rfl ?_; conv => whnf)
            | (refine vb_f rfl ?_; conv => whnf)
            | (refine vb_t (by assumption) ?_; conv => whnf)
            | (refine vb_f (by assumption) ?_; conv => whnf)
            | (refine vo_i hg ?_; conv => whnf)
            | (refine vpur_i hdg ?_; conv => whnf)
            | (refine vb_t (room_t (by simp <;> omega)) ?_; conv => whnf)
            | fail)
          exact ⟨⟨(k + 1, some (0, [(dgt c).toNat])), by simp only; omega, hnx⟩, by simp only; omega, cons_eq rfl (cons_eq rfl (cons_eq rfl (cons_eq rfl (cons_eq rfl (cons_eq rfl (cons_eq rfl (cons_eq rfl (cons_eq rfl (cons_eq (slot_eq (I_eq hdown)) rfl))))))))), cons_eq (arr_eq (map_snoc [] _ _ (dgt_val hcd))) rfl, rfl, rfl⟩
        · repeat' (first
            | (refine vb_t rfl ?_; conv => whnf)
            | (refine vb_f rfl ?_; conv => whnf)
            | (refine vb_t (by assumption) ?_; conv => whnf)
            | (refine vb_f (by assumption) ?_; conv => whnf)
            | (refine vo_i hg ?_; conv => whnf)
            | (refine vpur_i hdg ?_; conv => whnf)
            | (refine vb_t (room_t (by simp <;> omega)) ?_; conv => whnf)
            | fail)
          exact ⟨⟨(k + 1, some (0, [(dgt c).toNat])), by simp only; omega, hnx⟩, by simp only; omega, cons_eq rfl (cons_eq rfl (cons_eq rfl (cons_eq rfl (cons_eq rfl (cons_eq rfl (cons_eq rfl (cons_eq rfl (cons_eq rfl (cons_eq (slot_eq (I_eq hdown)) rfl))))))))), cons_eq (arr_eq (map_snoc [] _ _ (dgt_val hcd))) rfl, rfl, rfl⟩
      · have hll : l.length ≤ 100000 := by
          have h3 := congrArg List.length hx
          have h4 : (lastD s (seen s k)).length ≤ (allD s).length := by unfold lastD; simp
          rw [allD_len] at h4
          change l.length = _ at h3
          omega
        have hq : ieq (l.length : Int) ((l.map natRow).length : Int) = true := by rw [ieq_t]; simp
        have hgg : Nat.beq g g = true := by simp
        conv => whnf
        by_cases hkP : k = (pP s).length
        · have hik : (N : Int) - (k : Int) = ((pA s + digN s (pA s) : Nat) : Int) := by omega
          have q1 : ile (pA s : Int) ((N : Int) - (k : Int)) = true := by rw [ile_t]; omega
          have q4 : ilt ((N : Int) - (k : Int)) (iadd .i64 (pA s : Int) (digN s (pA s) : Int)) = false := by rw [e1, ilt_f]; omega
          have q5 : ilt (iadd .i64 (pA s : Int) (digN s (pA s) : Int)) ((N : Int) - (k : Int)) = false := by rw [e1, ilt_f]; omega
          have hx2 : nats (some (g, l)) = lastD s (seen s (k + 1)) := by rw [hkP, seen_at, ← hkP]; exact hx
          by_cases hil : pA s + digN s (pA s) < s.length
          · have q2 : ilt ((N : Int) - (k : Int)) (s.length : Int) = true := by rw [ilt_t]; omega
            obtain ⟨c, hc⟩ : ∃ c, s[pA s + digN s (pA s)]? = some c := ⟨s[pA s + digN s (pA s)], List.getElem?_eq_getElem hil⟩
            have hg : iget s ((N : Int) - (k : Int)) = some c := by rw [hik]; exact iget_t hc
            cases hcd : isDig c with
            | true =>
              have hdg := rdigit_ok c
              rw [hcd] at hdg
              repeat' (first
                | (refine vb_t rfl ?_; conv => whnf)
                | (refine vb_f rfl ?_; conv => whnf)
                | (refine vb_t (by assumption) ?_; conv => whnf)
                | (refine vb_f (by assumption) ?_; conv => whnf)
                | (refine vo_i hg ?_; conv => whnf)
                | (refine vpur_i hdg ?_; conv => whnf)
                | fail)
              exact ⟨⟨(k + 1, some (g, l)), by simp only; omega, hx2⟩, by simp only; omega, cons_eq rfl (cons_eq rfl (cons_eq rfl (cons_eq rfl (cons_eq rfl (cons_eq rfl (cons_eq rfl (cons_eq rfl (cons_eq rfl (cons_eq (slot_eq (I_eq hdown)) rfl))))))))), rfl, rfl, rfl⟩
            | false =>
              have hdg := rdigit_ok c
              rw [hcd] at hdg
              repeat' (first
                | (refine vb_t rfl ?_; conv => whnf)
                | (refine vb_f rfl ?_; conv => whnf)
                | (refine vb_t (by assumption) ?_; conv => whnf)
                | (refine vb_f (by assumption) ?_; conv => whnf)
                | (refine vo_i hg ?_; conv => whnf)
                | (refine vpur_i hdg ?_; conv => whnf)
                | fail)
              exact ⟨⟨(k + 1, some (g, l)), by simp only; omega, hx2⟩, by simp only; omega, cons_eq rfl (cons_eq rfl (cons_eq rfl (cons_eq rfl (cons_eq rfl (cons_eq rfl (cons_eq rfl (cons_eq rfl (cons_eq rfl (cons_eq (slot_eq (I_eq hdown)) rfl))))))))), rfl, rfl, rfl⟩
          · have q2 : ilt ((N : Int) - (k : Int)) (s.length : Int) = false := by rw [ilt_f]; omega
            repeat' (first
              | (refine vb_t rfl ?_; conv => whnf)
              | (refine vb_f rfl ?_; conv => whnf)
              | (refine vb_t (by assumption) ?_; conv => whnf)
              | (refine vb_f (by assumption) ?_; conv => whnf)
              | fail)
            exact ⟨⟨(k + 1, some (g, l)), by simp only; omega, hx2⟩, by simp only; omega, cons_eq rfl (cons_eq rfl (cons_eq rfl (cons_eq rfl (cons_eq rfl (cons_eq rfl (cons_eq rfl (cons_eq rfl (cons_eq rfl (cons_eq (slot_eq (I_eq hdown)) rfl))))))))), rfl, rfl, rfl⟩
        have hat := at_step hkle hkP
        have hsl := seen_lt hkle hkP
        obtain ⟨c, hc⟩ : ∃ c, (allD s)[(allD s).length - 1 - seen s k]? = some c := ⟨(allD s)[(allD s).length - 1 - seen s k]'(by omega), List.getElem?_eq_getElem (by omega)⟩
        have hla := lastD_succ hsl hc
        rw [← seen_succ hkP] at hla
        rw [hat] at hc
        have hcd := allD_dig s c (List.mem_of_getElem? (hat.trans hc))
        have hdg := rdigit_ok c
        rw [hcd] at hdg
        have hil := (List.getElem?_eq_some_iff.1 hc).1
        have hik : (N : Int) - (k : Int) = ((pA s + digN s (pA s) + (pP s).length - k : Nat) : Int) := by omega
        have hg : iget s ((N : Int) - (k : Int)) = some c := by rw [hik]; exact iget_t hc
        have q1 : ile (pA s : Int) ((N : Int) - (k : Int)) = true := by rw [ile_t]; omega
        have q2 : ilt ((N : Int) - (k : Int)) (s.length : Int) = true := by rw [ilt_t]; omega
        have q7 : ile ((N : Int) - (k : Int)) (iadd .i64 (iadd .i64 (pA s : Int) (digN s (pA s) : Int)) ((pP s).length : Int)) = true := by rw [e2, ile_t]; omega
        have hnx : nats (some (g + 1, l ++ [(dgt c).toNat])) = lastD s (seen s (k + 1)) := by rw [hla, ← hx]; rfl
        have hq4 : (ilt ((N : Int) - (k : Int)) (iadd .i64 (pA s : Int) (digN s (pA s) : Int)) = true) ∨ (ilt ((N : Int) - (k : Int)) (iadd .i64 (pA s : Int) (digN s (pA s) : Int)) = false ∧ ilt (iadd .i64 (pA s : Int) (digN s (pA s) : Int)) ((N : Int) - (k : Int)) = true) := by
          rw [e1, ilt_t, ilt_t, ilt_f]; omega
        rcases hq4 with q4 | ⟨q4, q5⟩
        · repeat' (first
            | (refine vb_t rfl ?_; conv => whnf)
            | (refine vb_f rfl ?_; conv => whnf)
            | (refine vb_t (by assumption) ?_; conv => whnf)
            | (refine vb_f (by assumption) ?_; conv => whnf)
            | (refine vo_i hg ?_; conv => whnf)
            | (refine vpur_i hdg ?_; conv => whnf)
            | (refine vb_t (room_t (by simp <;> omega)) ?_; conv => whnf)
            | fail)
          exact ⟨⟨(k + 1, some (g + 1, l ++ [(dgt c).toNat])), by simp only; omega, hnx⟩, by simp only; omega, cons_eq rfl (cons_eq rfl (cons_eq rfl (cons_eq rfl (cons_eq rfl (cons_eq rfl (cons_eq rfl (cons_eq rfl (cons_eq (slot_eq (osl_eq rfl (by simp))) (cons_eq (slot_eq (I_eq hdown)) rfl))))))))), cons_eq (arr_eq (map_snoc l _ _ (dgt_val hcd))) rfl, rfl, rfl⟩
        · repeat' (first
            | (refine vb_t rfl ?_; conv => whnf)
            | (refine vb_f rfl ?_; conv => whnf)
            | (refine vb_t (by assumption) ?_; conv => whnf)
            | (refine vb_f (by assumption) ?_; conv => whnf)
            | (refine vo_i hg ?_; conv => whnf)
            | (refine vpur_i hdg ?_; conv => whnf)
            | (refine vb_t (room_t (by simp <;> omega)) ?_; conv => whnf)
            | fail)
          exact ⟨⟨(k + 1, some (g + 1, l ++ [(dgt c).toNat])), by simp only; omega, hnx⟩, by simp only; omega, cons_eq rfl (cons_eq rfl (cons_eq rfl (cons_eq rfl (cons_eq rfl (cons_eq rfl (cons_eq rfl (cons_eq rfl (cons_eq (slot_eq (osl_eq rfl (by simp))) (cons_eq (slot_eq (I_eq hdown)) rfl))))))))), cons_eq (arr_eq (map_snoc l _ _ (dgt_val hcd))) rfl, rfl, rfl⟩
    obtain rfl : k = digN s (pA s) + (pP s).length + 1 := by omega
    rw [seen_end] at hx
    have hne : 0 < (allD s).length := by
      rcases Nat.eq_zero_or_pos (allD s).length with h | h
      · exact (hb (by have h5 := List.length_eq_zero_iff.1 h; unfold allD at h5; exact List.append_eq_nil_iff.1 h5)).elim
      · exact h
    have hlen : (lastD s (allD s).length).length = (allD s).length := by unfold lastD; simp
    have q1 : ile (pA s : Int) ((N : Int) - ((digN s (pA s) + (pP s).length + 1 : Nat) : Int)) = false := by rw [ile_f]; omega
    rcases x with _ | ⟨g, l⟩
    · exfalso
      have h3 := congrArg List.length hx
      rw [hlen] at h3
      change 0 = _ at h3
      omega
    change l = _ at hx
    have hll : l.length = (allD s).length := by rw [hx, hlen]
    have hl0 : l ≠ [] := fun e => by rw [e] at hll; simp at hll; omega
    have hlv : valR l = valD (dgs (numP s)) := by
      obtain ⟨w1, w2, _⟩ := numP_w hb
      rw [hx, lastD_all, valR_rev]
      unfold dgs allD; rw [w1, w2]
    obtain ⟨M, hMS, hM1, hM2, hM3⟩ := rscaled_ok l hl0 (by rw [hx]; exact lastD_digR _ _) (by rw [hll, allD_len]; omega) sc (by omega)
    have hgg : Nat.beq g g = true := by simp
    have he : (l.map natRow).isEmpty = false := by
      cases l with
      | nil => exact (hl0 rfl).elim
      | cons c t => rfl
    have hdr : ((l.map natRow).take l.length).drop 0 = l.map natRow := by rw [List.drop_zero, List.take_of_length_le (by simp)]
    have hE := expD_le (numP s).exp
    have hE2 : -1000 ≤ expV (numP s).exp ∧ expV (numP s).exp ≤ 1000 := by unfold expV; split <;> omega
    have hbe : isub .i64 ((pP s).length : Int) (expV (numP s).exp) = ((numP s).part.length : Int) - expV (numP s).exp := by rw [(numP_w hb).2.1, isub64 (by omega) (by omega)]
    have hpl : (numP s).part.length ≤ s.length := (numP_facts s).2.1
    have hR := rround_ok M hM1 (by omega) (((numP s).part.length : Int) - expV (numP s).exp) (by omega) (by omega)
    rw [hM2, hlv, ← hbe] at hR
    have hX := rexp_num s (by omega) h1 hb
    have hs0 : 0 < s.length := by omega
    obtain ⟨c0, hc0⟩ : ∃ c, s[0]? = some c := ⟨s[0], List.getElem?_eq_getElem hs0⟩
    have hg0 : iget s (Int.ofNat 0) = some c0 := iget_t hc0
    have hbel : (numP s).below = decide (c0 = 45) := by rw [(numP_w hb).2.2]; unfold sgnB; rw [hc0]; simp
    clear hM1 hM2 hlv hT0 hx hlen hll hl0 hne hc0 hdown
    obtain ⟨X, hXe⟩ : ∃ X, valD (dgs (numP s)) * sc = X := ⟨_, rfl⟩
    rw [← hbe, hXe] at hV
    rw [hXe] at hR
    by_cases hM : rndN X (isub .i64 ((pP s).length : Int) (expV (numP s).exp)) ≤ 68719476736
    · have hRe := rndM_eq hM
      rw [hRe] at hR
      rw [if_pos hM] at hV
      obtain ⟨R, hRR⟩ : ∃ R, rndN X (isub .i64 ((pP s).length : Int) (expV (numP s).exp)) = R := ⟨_, rfl⟩
      rw [hRR] at hR hV hM
      have q6 : ilt (Int.ofNat 68719476736) (R : Int) = false := by rw [ilt_f, ofn]; omega
      by_cases h45 : c0 = 45
      · have q5 : ieq (c0.toNat : Int) (Int.ofNat 45) = true := ieq_c 45 rfl h45
        rw [hbel, decide_eq_true h45, if_pos rfl] at hV
        subst hV
        conv => whnf
        repeat' (first
          | (refine vb_t rfl ?_; conv => whnf)
          | (refine vb_f rfl ?_; conv => whnf)
          | (refine vb_t (by assumption) ?_; conv => whnf)
          | (refine vb_f (by assumption) ?_; conv => whnf)
          | (rw [hdr]; conv => whnf)
          | (refine vpur_i hMS ?_; conv => whnf)
          | (refine vpur_i hX ?_; conv => whnf)
          | (refine vpur_i hR ?_; conv => whnf)
          | (refine vo_i hg0 ?_; conv => whnf)
          | fail)
        refine ⟨congrArg CR.ret ?_, rfl⟩
        show AV.tup [I (isub .i64 (Int.ofNat 0) (R : Int)), I 0] = .tup [I (-(R : Int)), I 0]
        rw [ofn, isub64 (by omega) (by omega), Int.natCast_zero, Int.zero_sub]
      · have q5 : ieq (c0.toNat : Int) (Int.ofNat 45) = false := ieq_nc 45 rfl h45
        rw [hbel, decide_eq_false h45, if_neg (by decide)] at hV
        subst hV
        conv => whnf
        repeat' (first
          | (refine vb_t rfl ?_; conv => whnf)
          | (refine vb_f rfl ?_; conv => whnf)
          | (refine vb_t (by assumption) ?_; conv => whnf)
          | (refine vb_f (by assumption) ?_; conv => whnf)
          | (rw [hdr]; conv => whnf)
          | (refine vpur_i hMS ?_; conv => whnf)
          | (refine vpur_i hX ?_; conv => whnf)
          | (refine vpur_i hR ?_; conv => whnf)
          | (refine vo_i hg0 ?_; conv => whnf)
          | fail)
        exact ⟨rfl, rfl⟩
    · rw [if_neg hM] at hV
      subst hV
      rw [← rndM_le] at hM
      obtain ⟨R, hRR⟩ : ∃ R, rndM X (isub .i64 ((pP s).length : Int) (expV (numP s).exp)) = R := ⟨_, rfl⟩
      rw [hRR] at hR hM
      have q6 : ilt (Int.ofNat 68719476736) (R : Int) = true := by rw [ilt_t, ofn]; omega
      conv => whnf
      repeat' (first
        | (refine vb_t rfl ?_; conv => whnf)
        | (refine vb_f rfl ?_; conv => whnf)
        | (refine vb_t (by assumption) ?_; conv => whnf)
        | (refine vb_f (by assumption) ?_; conv => whnf)
        | (rw [hdr]; conv => whnf)
        | (refine vpur_i hMS ?_; conv => whnf)
        | (refine vpur_i hX ?_; conv => whnf)
        | (refine vpur_i hR ?_; conv => whnf)
        | (refine vo_i hg0 ?_; conv => whnf)
        | fail)
      exact ⟨rfl, rfl⟩
end Go.Proofs.YtjjolfgpphjhkaaGreatDoor.Ab
