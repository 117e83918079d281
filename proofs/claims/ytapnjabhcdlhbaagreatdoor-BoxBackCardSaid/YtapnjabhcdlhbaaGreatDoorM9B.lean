/- Some texts as one, one behind the other; what is not leaned on is left out. -/
import Derived.Test.YtapnjabhcdlhbaaGreatDoorAbSome
import Derived.Test.YtapnjabhcdlhbaaGreatDoorM9A
import Derived.Test.YtapnjabhcdlhbaaGreatDoorC00z
import Derived.Lib.ItoaLen
namespace Go.Proofs.YtapnjabhcdlhbaaGreatDoor.Ab
open Go
set_option linter.unusedSimpArgs false
set_option maxRecDepth 100000
set_option linter.unusedVariables false
set_option maxHeartbeats 4000000
/-- Digits (0 to 9 each), the first one first, as a number. -/
def valD : List UInt8 → Nat
  | [] => 0
  | c :: l => c.toNat * 10 ^ l.length + valD l
def digsOk (l : List UInt8) : Prop := ∀ c ∈ l, c.toNat ≤ 9
theorem valD_append : ∀ a b : List UInt8, valD (a ++ b) = valD a * 10 ^ b.length + valD b
  | [], b => by simp [valD]
  | c :: a, b => by
    have h := valD_append a b
    simp only [List.cons_append, valD, h, List.length_append, Nat.pow_add, Nat.add_mul]
    rw [Nat.mul_assoc]; omega
theorem valD_lt : ∀ l : List UInt8, digsOk l → valD l < 10 ^ l.length
  | [], _ => by simp [valD]
  | c :: l, h => by
    have h1 := valD_lt l fun x hx => h x (List.mem_cons_of_mem _ hx)
    have h2 := h c (List.mem_cons_self ..)
    simp only [valD, List.length_cons, Nat.pow_succ]
    have h3 : c.toNat * 10 ^ l.length ≤ 9 * 10 ^ l.length := Nat.mul_le_mul_right _ h2
    omega
theorem valD_zeros : ∀ n : Nat, valD (List.replicate n 0) = 0
  | 0 => rfl
  | n + 1 => by rw [List.replicate_succ, valD, valD_zeros n]; simp
theorem digsOk_append {a b : List UInt8} (h : digsOk a) (k : digsOk b) : digsOk (a ++ b) := fun c hc => by
  rcases List.mem_append.1 hc with hc | hc
  · exact h c hc
  · exact k c hc
theorem valD_split (l : List UInt8) (i : Nat) : valD l = valD (l.take i) * 10 ^ (l.length - i) + valD (l.drop i) := by
  have h := valD_append (l.take i) (l.drop i)
  rw [List.take_append_drop, List.length_drop] at h
  exact h
/-- A number times ten to the power of minus behind, rounded half up. -/
def rndN (X : Nat) (behind : Int) : Nat :=
  if behind ≤ 0 then X * 10 ^ (-behind).toNat
  else X / 10 ^ behind.toNat + (if 5 ≤ X / 10 ^ (behind.toNat - 1) % 10 then 1 else 0)
theorem rndN_pos {X r : Nat} (h : 0 < r) : rndN X r = X / 10 ^ r + (if 5 ≤ X / 10 ^ (r - 1) % 10 then 1 else 0) := by
  unfold rndN; rw [if_neg (by omega), Int.toNat_natCast]
theorem rndN_neg {X : Nat} {b : Int} (h : b ≤ 0) : rndN X b = X * 10 ^ (-b).toNat := by unfold rndN; rw [if_pos h]
/-- Whole times the power, and what is left below it. -/
theorem rndN_parts {W m r c d0 : Nat} (hr : 0 < r) (hm : m < 10 ^ r) (hd : m / 10 ^ (r - 1) = d0) (hd9 : d0 ≤ 9) : rndN ((W + c) * 10 ^ r + m) r = W + c + (if 5 ≤ d0 then 1 else 0) := by
  have hp : 0 < 10 ^ r := Nat.pow_pos (by decide)
  have hp1 : 0 < 10 ^ (r - 1) := Nat.pow_pos (by decide)
  have he : 10 ^ r = 10 ^ (r - 1) * 10 := by rw [← Nat.pow_succ]; congr 1; omega
  rw [rndN_pos hr]
  have h1 : ((W + c) * 10 ^ r + m) / 10 ^ r = W + c := by
    rw [Nat.mul_comm, Nat.mul_add_div hp, Nat.div_eq_of_lt hm, Nat.add_zero]
  have h2 : ((W + c) * 10 ^ r + m) / 10 ^ (r - 1) = (W + c) * 10 + d0 := by
    rw [he, ← Nat.mul_assoc, Nat.mul_comm (W + c), Nat.mul_assoc, Nat.mul_add_div hp1, hd]
  rw [h1, h2]
  have h3 : ((W + c) * 10 + d0) % 10 = d0 := by omega
  rw [h3]
theorem rndN_small {X : Nat} {b : Int} (r : Nat) (hb : b = (r : Int)) (hr : 0 < r) (h : X < 10 ^ (r - 1)) : rndN X b = 0 := by
  subst hb
  rw [rndN_pos hr, Nat.div_eq_of_lt h, Nat.div_eq_of_lt (Nat.lt_of_lt_of_le h (Nat.pow_le_pow_right (by decide) (by omega)))]
  rfl
theorem rndN_big {X : Nat} {b : Int} (n k : Nat) (h : 10 ^ k ≤ X) (hb : b + n ≤ (k : Int)) : 10 ^ n ≤ rndN X b := by
  unfold rndN
  split
  · rename_i h0
    have h1 : 10 ^ n ≤ 10 ^ (k + (-b).toNat) := Nat.pow_le_pow_right (by decide) (by omega)
    rw [Nat.pow_add] at h1
    exact Nat.le_trans h1 (Nat.mul_le_mul_right _ h)
  · rename_i h0
    obtain ⟨r, rfl⟩ : ∃ r : Nat, b = r := ⟨b.toNat, by omega⟩
    rw [Int.toNat_natCast]
    have h1 : 10 ^ n ≤ X / 10 ^ r := by
      rw [Nat.le_div_iff_mul_le (Nat.pow_pos (by decide)), ← Nat.pow_add]
      exact Nat.le_trans (Nat.pow_le_pow_right (by decide) (by omega)) h
    omega
theorem valD_first {c : UInt8} {l : List UInt8} (h : c.toNat ≠ 0) : 10 ^ l.length ≤ valD (c :: l) := by
  have : 1 * 10 ^ l.length ≤ c.toNat * 10 ^ l.length := Nat.mul_le_mul_right _ (by omega)
  simp only [valD]; omega
theorem valD_head {l : List UInt8} {c : UInt8} (h : l[0]? = some c) (hd : digsOk l) : valD l / 10 ^ (l.length - 1) = c.toNat := by
  cases l with
  | nil => simp at h
  | cons d l =>
    simp at h; subst h
    have h1 := valD_lt l fun x hx => hd x (List.mem_cons_of_mem _ hx)
    simp only [valD, List.length_cons, Nat.add_sub_cancel]
    rw [Nat.mul_comm, Nat.mul_add_div (Nat.pow_pos (by decide)), Nat.div_eq_of_lt h1, Nat.add_zero]
theorem headD_div {m : List UInt8} (hm : digsOk m) (h : 0 < m.length) : valD m / 10 ^ (m.length - 1) = (m.headD 0).toNat ∧ (m.headD 0).toNat ≤ 9 := by
  cases m with
  | nil => simp at h
  | cons c l => exact ⟨valD_head (c := c) rfl hm, hm c (List.mem_cons_self ..)⟩
/-- What is left, behind the point: r digits m, and so many whole ones more. -/
theorem rnd_rest {V W r sc ca F : Nat} {m : List UInt8} (hm : digsOk m) (hr : m.length = r) (hV : V = W * 10 ^ r + F) (hF : valD m + ca * 10 ^ r = F * sc) :
    rndN (V * sc) (r : Int) = W * sc + ca + (if 5 ≤ (m.headD 0).toNat then 1 else 0) := by
  have hX : V * sc = (W * sc + ca) * 10 ^ r + valD m := by
    rw [hV, Nat.add_mul, ← hF, Nat.add_mul]
    have : W * 10 ^ r * sc = W * sc * 10 ^ r := by rw [Nat.mul_assoc, Nat.mul_comm (10 ^ r), ← Nat.mul_assoc]
    omega
  have hlt := valD_lt m hm
  rw [hr] at hlt
  rcases Nat.eq_zero_or_pos r with h0 | h0
  · subst h0
    have hm0 : m = [] := List.length_eq_zero_iff.1 hr
    subst hm0
    rw [rndN_neg (by omega), hX]
    simp [valD]
  · obtain ⟨h1, h2⟩ := headD_div hm (by omega)
    rw [hr] at h1
    rw [hX]
    exact rndN_parts h0 hlt h1 h2
theorem rnd_fin {e : List UInt8} {n : Int} {sc i Z : Nat} (hi : n.toNat = i) (hZ : (-n).toNat = Z) {m : List UInt8} {ca : Nat} (hm : digsOk m) (hml : m.length = (List.replicate Z 0 ++ e.drop (min e.length i)).length)
    (hv : valD m + ca * 10 ^ m.length = valD (List.replicate Z 0 ++ e.drop (min e.length i)) * sc) :
    rndN (valD e * sc) ((e.length : Int) - n) = (valD (e.take i) * 10 ^ (i - e.length)) * sc + ca + (if 5 ≤ (m.headD 0).toNat then 1 else 0) := by
  have hF : valD (List.replicate Z 0 ++ e.drop (min e.length i)) = valD (e.drop (min e.length i)) := by rw [valD_append, valD_zeros, Nat.zero_mul, Nat.zero_add]
  rw [hF] at hv
  simp only [List.length_append, List.length_replicate, List.length_drop] at hml
  by_cases hbig : e.length < i
  · have h0 : m.length = 0 := by omega
    have hm0 : m = [] := List.length_eq_zero_iff.1 h0
    subst hm0
    rw [Nat.min_eq_left (by omega), List.drop_length] at hv
    simp only [valD, List.length_nil, Nat.pow_zero, Nat.mul_one, Nat.zero_mul, Nat.zero_add] at hv
    subst hv
    rw [rndN_neg (by omega), List.take_of_length_le (by omega)]
    have h1 : (-((e.length : Int) - n)).toNat = i - e.length := by omega
    rw [h1]
    have : valD e * sc * 10 ^ (i - e.length) = valD e * 10 ^ (i - e.length) * sc := by rw [Nat.mul_assoc, Nat.mul_comm sc, ← Nat.mul_assoc]
    simp [this]
  · have hle : i ≤ e.length := by omega
    rw [Nat.min_eq_right hle] at hv hml
    have hr : (e.length : Int) - n = ((m.length : Nat) : Int) := by omega
    rw [hr]
    have hp0 : i - e.length = 0 := by omega
    rw [hp0, Nat.pow_zero, Nat.mul_one]
    refine rnd_rest hm rfl ?_ hv
    rcases Nat.eq_zero_or_pos i with h0 | h0
    · subst h0
      simp [valD]
    · have : m.length = e.length - i := by omega
      rw [this]; exact valD_split e i
/-- One step of the multiplication, the last digit first. -/
theorem mul_step {c ca sc P vm vl : Nat} (h : vm + ca * P = vl * sc) : ((c * sc + ca) % 10) * P + vm + ((c * sc + ca) / 10) * (P * 10) = (c * P + vl) * sc := by
  have h1 : (c * sc + ca) % 10 * P + (c * sc + ca) / 10 * (P * 10) = (c * sc + ca) * P := by
    have h2 : (c * sc + ca) / 10 * (P * 10) = 10 * ((c * sc + ca) / 10) * P := by rw [Nat.mul_comm P 10, ← Nat.mul_assoc, Nat.mul_comm ((c * sc + ca) / 10) 10]
    rw [h2, ← Nat.add_mul]
    congr 1
    omega
  have h3 : (c * sc + ca) * P = c * P * sc + ca * P := by rw [Nat.add_mul, Nat.mul_assoc, Nat.mul_comm sc P, ← Nat.mul_assoc]
  rw [Nat.add_mul, ← h]
  omega
end Go.Proofs.YtapnjabhcdlhbaaGreatDoor.Ab
namespace Go.Proofs.YtapnjabhcdlhbaaGreatDoor.Ab
open Go
set_option linter.unusedSimpArgs false
set_option maxRecDepth 100000
set_option linter.unusedVariables false
set_option maxHeartbeats 4000000
theorem tail_cut (c : UInt8) (t : List UInt8) : icut ((c :: t).map byteRow) (Int.ofNat 1) (((c :: t).map byteRow).length : Int) = some (t.map byteRow) := by
  rw [icut_t (by decide) (by simp only [ofn, List.length_map, List.length_cons]; omega) (Int.le_refl _)]
  rw [Int.toNat_natCast, List.take_length]
  rfl
theorem of_dig {x : Nat} (h : x < 256) : (UInt8.ofNat x).toNat = x := by rw [UInt8.toNat_ofNat']; omega
theorem dig_row {x : Nat} (h : x < 256) : byteRow (UInt8.ofNat x) = [DV.int .u8 (icast .u8 (x : Int))] := by
  show [DV.int .u8 ((UInt8.ofNat x).toNat : Int)] = _
  rw [of_dig h]
  have : icast .u8 (x : Int) = (x : Int) := by
    unfold icast
    simp only [IntKind.wrap, IntKind.signed, IntKind.bits, Bool.false_and, Bool.false_eq_true, if_false]
    omega
  rw [this]
theorem set_dig {m : List UInt8} {q x : Nat} (h : digsOk m) (hx : x ≤ 9) : digsOk (m.set q (UInt8.ofNat x)) := fun c hc => by
  rcases List.mem_or_eq_of_mem_set hc with h1 | h1
  · exact h c h1
  · rw [h1, of_dig (by omega)]; exact hx
theorem set_take {m : List UInt8} {q : Nat} {a : UInt8} : (m.set q a).take q = m.take q := by
  apply List.ext_getElem?
  intro i
  rw [List.getElem?_take, List.getElem?_take]
  split
  · rw [List.getElem?_set_ne (by omega)]
  · rfl
theorem drop_get1 {l : List UInt8} {i : Nat} {x : UInt8} (h : l[i]? = some x) : l.drop i = x :: l.drop (i + 1) := by
  obtain ⟨h1, h2⟩ := List.getElem?_eq_some_iff.1 h
  rw [List.drop_eq_getElem_cons h1, h2]
theorem set_drop {m : List UInt8} {q : Nat} {a : UInt8} (h : q < m.length) : (m.set q a).drop q = a :: m.drop (q + 1) := by
  rw [drop_get1 (x := a) (by rw [List.getElem?_set_self h])]
  congr 1
  apply List.ext_getElem?
  intro i
  rw [List.getElem?_drop, List.getElem?_drop, List.getElem?_set_ne (by omega)]
def bys : Option (Nat × List UInt8) → List UInt8
  | none => []
  | some (_, l) => l
theorem scaledX_ok (d : List UInt8) (point : Int) (sc : Nat) (hsc : sc ≤ 1000) (hsc1 : 1 ≤ sc) (hd : d.length ≤ 1000000) (hdg : digsOk d) (hp1 : -1000000 ≤ point) (hp2 : point ≤ 2000000) :
    ∃ x : Int × Bool, Pur F0 172 [.d (.sl 1 (d.map byteRow)), I point, I (sc : Int)] [] .no (.ret (.tup [I x.1, B x.2])) .no ∧
      (x.2 = decide (rndN (valD d * sc) ((d.length : Int) - point) ≤ 68719476736) ∧ (x.2 = true → x.1 = (rndN (valD d * sc) ((d.length : Int) - point) : Nat))) := by
  obtain ⟨N, hN⟩ : ∃ N, rndN (valD d * sc) ((d.length : Int) - point) = N := ⟨_, rfl⟩
  rw [hN]
  refine pur_ret (σ := Int × Bool) (g := fun x => .tup [I x.1, B x.2]) (Q := fun x => x.2 = decide (N ≤ 68719476736) ∧ (x.2 = true → x.1 = (N : Nat))) code172_ok ?_
  conv => whnf
  refine vloop_by (σ := { x : List UInt8 × Int // x.1.length ≤ d.length ∧ digsOk x.1 ∧ valD x.1 = valD d ∧ (x.1.length : Int) - x.2 = d.length - point }) (fun x => [(0, .d (.sl 1 (x.1.1.map byteRow))), (1, I x.1.2), (2, I (sc : Int)), (6, I 0), (7, B false)]) (fun _ => []) (fun x => x.1.1.length) ?_ ⟨(d, point), Nat.le_refl _, hdg, rfl, rfl⟩
  rintro ⟨⟨e, n⟩, he, heg, hv, hb⟩
  simp only at he heg hv hb
  conv => whnf
  cases e with
  | nil =>
    have q0 : ilt (Int.ofNat 0) ((([] : List UInt8).map byteRow).length : Int) = false := by rw [ilt_f]; decide
    have q1 : ieq ((([] : List UInt8).map byteRow).length : Int) (Int.ofNat 0) = true := by rw [ieq_t]; decide
    repeat' (first
      | (refine vb_t rfl ?_; conv => whnf)
      | (refine vb_f rfl ?_; conv => whnf)
      | (refine vb_t (by assumption) ?_; conv => whnf)
      | (refine vb_f (by assumption) ?_; conv => whnf)
      | fail)
    refine ⟨(_, _), rfl, rfl, ?_⟩
    have h0 : N = 0 := by
      rw [← hN, ← hv]
      show rndN (valD [] * sc) _ = 0
      simp only [valD, Nat.zero_mul]
      unfold rndN; split
      · simp
      · simp
    subst h0
    exact ⟨by decide, fun _ => rfl⟩
  | cons c t =>
    have q0 : ilt (Int.ofNat 0) (((c :: t).map byteRow).length : Int) = true := by rw [ilt_t, List.length_map, ofn, List.length_cons]; omega
    have hc : iget ((c :: t).map byteRow) (Int.ofNat 0) = some (byteRow c) := iget_t (n := 0) rfl
    have hcut := tail_cut c t
    by_cases hz : c.toNat = 0
    · have q1 : ieq (c.toNat : Int) (Int.ofNat 0) = true := by rw [ieq_t, hz]; rfl
      repeat' (first
        | (refine vb_t rfl ?_; conv => whnf)
        | (refine vb_f rfl ?_; conv => whnf)
        | (refine vb_t (by assumption) ?_; conv => whnf)
        | (refine vb_f (by assumption) ?_; conv => whnf)
        | (refine vo_i hc ?_; conv => whnf)
        | (refine vo_i hcut ?_; conv => whnf)
        | fail)
      simp only [List.length_cons] at he hb
      refine ⟨⟨(t, n - 1), by show t.length ≤ d.length; omega, fun x hx => heg x (List.mem_cons_of_mem _ hx), by rw [← hv]; simp only [valD, hz]; omega, by show (t.length : Int) - (n - 1) = _; omega⟩, by show t.length < t.length + 1; omega, cons_eq rfl (cons_eq (slot_eq (I_eq ?_)) rfl), rfl, rfl, rfl⟩
      show isub .i64 n (Int.ofNat 1) = n - 1
      rw [ofn, isub64 (by omega) (by omega)]; rfl
    · have q1 : ieq (c.toNat : Int) (Int.ofNat 0) = false := by rw [ieq_f, ofn]; omega
      have q2 : ieq (((c :: t).map byteRow).length : Int) (Int.ofNat 0) = false := by rw [ieq_f, List.length_map, ofn, List.length_cons]; omega
      have hlo := valD_first (c := c) (l := t) hz
      have hhi := valD_lt _ heg
      have hm1 : valD (c :: t) * 1 ≤ valD (c :: t) * sc := Nat.mul_le_mul_left _ hsc1
      have hm2 : valD (c :: t) * sc ≤ valD (c :: t) * 1000 := Nat.mul_le_mul_left _ hsc
      have hN2 : rndN (valD (c :: t) * sc) (((c :: t).length : Int) - n) = N := by rw [hv, hb, hN]
      repeat' (first
        | (refine vb_t rfl ?_; conv => whnf)
        | (refine vb_f rfl ?_; conv => whnf)
        | (refine vb_t (by assumption) ?_; conv => whnf)
        | (refine vb_f (by assumption) ?_; conv => whnf)
        | (refine vo_i hc ?_; conv => whnf)
        | fail)
      refine vb_i (fun h => ?_) (fun h => ?_) <;> conv => whnf
      · repeat' (first
          | (refine vb_t rfl ?_; conv => whnf)
          | (refine vb_f rfl ?_; conv => whnf)
          | (refine vb_t (by assumption) ?_; conv => whnf)
          | (refine vb_f (by assumption) ?_; conv => whnf)
          | fail)
        refine ⟨(_, _), rfl, rfl, ?_⟩
        have hn : n < -5 := by (first | omega | (simp only [ilt_t, ilt_f, ile_t, ile_f, ieq_t, ieq_f, ofn, List.length_map, Bool.not_eq_true', Bool.not_eq_false'] at *; omega))
        have h0 : N = 0 := by
          rw [← hN2]
          obtain ⟨r, hr⟩ : ∃ r : Nat, ((c :: t).length : Int) - n = (r : Int) := ⟨(((c :: t).length : Int) - n).toNat, by omega⟩
          refine rndN_small r hr (by omega) ?_
          have h5 : 10 ^ ((c :: t).length + 3) ≤ 10 ^ (r - 1) := Nat.pow_le_pow_right (by decide) (by omega)
          rw [Nat.pow_add] at h5
          have h6 : (10 : Nat) ^ 3 = 1000 := by decide
          rw [h6] at h5
          omega
        subst h0
        exact ⟨by decide, fun _ => rfl⟩
      repeat' (first
        | (refine vb_t rfl ?_; conv => whnf)
        | (refine vb_f rfl ?_; conv => whnf)
        | (refine vb_t (by assumption) ?_; conv => whnf)
        | (refine vb_f (by assumption) ?_; conv => whnf)
        | fail)
      refine vb_i (fun h => ?_) (fun h => ?_) <;> conv => whnf
      · repeat' (first
          | (refine vb_t rfl ?_; conv => whnf)
          | (refine vb_f rfl ?_; conv => whnf)
          | (refine vb_t (by assumption) ?_; conv => whnf)
          | (refine vb_f (by assumption) ?_; conv => whnf)
          | fail)
        refine ⟨(_, _), rfl, rfl, ?_⟩
        have hn : 13 < n := by (first | omega | (simp only [ilt_t, ilt_f, ile_t, ile_f, ieq_t, ieq_f, ofn, List.length_map, Bool.not_eq_true', Bool.not_eq_false'] at *; omega))
        have h0 : 10 ^ 13 ≤ N := by
          rw [← hN2]
          refine rndN_big 13 t.length (by omega) ?_
          simp only [List.length_cons]; omega
        have h6 : (10 : Nat) ^ 13 = 10000000000000 := by decide
        rw [h6] at h0
        refine ⟨?_, fun h => by cases h⟩
        show false = decide (N ≤ 68719476736)
        rw [eq_comm, decide_eq_false_iff_not]; omega
      have hn1 : n ≤ 13 := by (first | omega | (simp only [ilt_t, ilt_f, ile_t, ile_f, ieq_t, ieq_f, ofn, List.length_map, Bool.not_eq_true', Bool.not_eq_false'] at *; omega))
      have hn2 : -5 ≤ n := by (first | omega | (simp only [ilt_t, ilt_f, ile_t, ile_f, ieq_t, ieq_f, ofn, List.length_map, Bool.not_eq_true', Bool.not_eq_false'] at *; omega))
      generalize c :: t = e at *
      clear hc hcut hlo hhi hm1 hm2 hz q0
      obtain ⟨P, hP⟩ : ∃ P : Nat, n.toNat = P := ⟨_, rfl⟩
      have eM : imax (Int.ofNat 0) n = (P : Int) := by rw [imax_d, ofn]; split <;> omega
      have hP13 : P ≤ 13 := by omega
      have hw : ∀ i, valD (e.take i) * 10 ^ (i - e.length) < 10 ^ i := fun i => by
        have h1 := valD_lt (e.take i) fun x hx => heg x (List.mem_of_mem_take hx)
        rw [List.length_take] at h1
        have h2 : valD (e.take i) * 10 ^ (i - e.length) < 10 ^ min i e.length * 10 ^ (i - e.length) := (Nat.mul_lt_mul_right (Nat.pow_pos (by decide))).2 h1
        rw [← Nat.pow_add] at h2
        have h3 : min i e.length + (i - e.length) = i := by omega
        rwa [h3] at h2
      have h13 : ∀ i, i ≤ 13 → 10 ^ i ≤ 10000000000000 := fun i hi => Nat.le_trans (Nat.pow_le_pow_right (by decide) hi) (by decide)
      refine vloop_eq2 (fr' := [(0, .d (.sl 1 (e.map byteRow))), (1, I n), (2, I (sc : Int)), (6, I 0), (7, B false), (8, I ((valD (e.take 0) * 10 ^ (0 - e.length) : Nat) : Int)), (40, I (P : Int)), (41, I ((0 : Nat) : Int))]) ?_ rfl ?_
      · exact cons_eq rfl (cons_eq rfl (cons_eq rfl (cons_eq rfl (cons_eq rfl (cons_eq (slot_eq (I_eq (by simp [valD]))) (cons_eq (slot_eq (I_eq eM)) rfl))))))
      refine vloop_by (σ := { i : Nat // i ≤ P }) (fun i => [(0, .d (.sl 1 (e.map byteRow))), (1, I n), (2, I (sc : Int)), (6, I 0), (7, B false), (8, I ((valD (e.take i.1) * 10 ^ (i.1 - e.length) : Nat) : Int)), (40, I (P : Int)), (41, I (i.1 : Int))]) (fun _ => []) (fun i => P - i.1) ?_ ⟨0, Nat.zero_le _⟩
      rintro ⟨i, hi⟩
      conv => whnf
      refine vb_i (fun h => ?_) (fun h => ?_) <;> conv => whnf
      · have hiP : i < P := by (first | omega | (simp only [ilt_t, ilt_f, ile_t, ile_f, ieq_t, ieq_f, ofn, List.length_map, Bool.not_eq_true', Bool.not_eq_false'] at *; omega))
        have hwi := hw i
        have h13i := h13 i (by omega)
        obtain ⟨W, hW⟩ : ∃ W, valD (e.take i) * 10 ^ (i - e.length) = W := ⟨_, rfl⟩
        rw [hW] at hwi
        have e1 : imul .i64 (W : Int) (Int.ofNat 10) = ((W * 10 : Nat) : Int) := by rw [ofn, imul64 (by omega) (by omega)]; omega
        refine vb_i (fun h => ?_) (fun h => ?_) <;> conv => whnf
        · have hie : i < e.length := by (first | omega | (simp only [ilt_t, ilt_f, ile_t, ile_f, ieq_t, ieq_f, ofn, List.length_map, Bool.not_eq_true', Bool.not_eq_false'] at *; omega))
          obtain ⟨c, hc⟩ : ∃ c, e[i]? = some c := ⟨e[i], List.getElem?_eq_getElem hie⟩
          have hr : iget (e.map byteRow) (i : Int) = some (byteRow c) := iget_t (by rw [List.getElem?_map, hc]; rfl)
          have hc9 := heg c (List.mem_of_getElem? hc)
          have e2 : iadd .i64 ((W * 10 : Nat) : Int) (c.toNat : Int) = ((W * 10 + c.toNat : Nat) : Int) := by rw [iadd64 (by omega) (by omega)]; omega
          have e3 : valD (e.take (i + 1)) * 10 ^ (i + 1 - e.length) = W * 10 + c.toNat := by
            rw [← hW, List.take_add_one, hc, valD_append, Nat.sub_eq_zero_of_le (by omega), Nat.sub_eq_zero_of_le (by omega)]
            simp [valD]
          repeat' (first
            | (refine vb_t rfl ?_; conv => whnf)
            | (refine vb_f rfl ?_; conv => whnf)
            | (refine vb_t (by assumption) ?_; conv => whnf)
            | (refine vb_f (by assumption) ?_; conv => whnf)
            | (refine vo_i hr ?_; conv => whnf)
            | fail)
          refine ⟨⟨i + 1, hiP⟩, by simp only; omega, cons_eq rfl (cons_eq rfl (cons_eq rfl (cons_eq rfl (cons_eq rfl (cons_eq (slot_eq (I_eq ?_)) (cons_eq rfl (cons_eq (slot_eq (I_eq (iadd_one (i := i) (by omega)))) rfl))))))), rfl, rfl, rfl⟩
          show iadd .i64 (imul .i64 ((valD (e.take i) * 10 ^ (i - e.length) : Nat) : Int) (Int.ofNat 10)) (icast .i64 (c.toNat : Int)) = ((valD (e.take (i + 1)) * 10 ^ (i + 1 - e.length) : Nat) : Int)
          rw [hW, e1, icast64 (by omega) (by omega), e2, e3]
        · have hie : e.length ≤ i := by (first | omega | (simp only [ilt_t, ilt_f, ile_t, ile_f, ieq_t, ieq_f, ofn, List.length_map, Bool.not_eq_true', Bool.not_eq_false'] at *; omega))
          have e3 : valD (e.take (i + 1)) * 10 ^ (i + 1 - e.length) = W * 10 := by
            rw [← hW, List.take_of_length_le (by omega), List.take_of_length_le (by omega), Nat.succ_sub hie, Nat.pow_succ, Nat.mul_assoc]
          repeat' (first
            | (refine vb_t rfl ?_; conv => whnf)
            | (refine vb_f rfl ?_; conv => whnf)
            | (refine vb_t (by assumption) ?_; conv => whnf)
            | (refine vb_f (by assumption) ?_; conv => whnf)
            | fail)
          refine ⟨⟨i + 1, hiP⟩, by simp only; omega, cons_eq rfl (cons_eq rfl (cons_eq rfl (cons_eq rfl (cons_eq rfl (cons_eq (slot_eq (I_eq ?_)) (cons_eq rfl (cons_eq (slot_eq (I_eq (iadd_one (i := i) (by omega)))) rfl))))))), rfl, rfl, rfl⟩
          show imul .i64 ((valD (e.take i) * 10 ^ (i - e.length) : Nat) : Int) (Int.ofNat 10) = ((valD (e.take (i + 1)) * 10 ^ (i + 1 - e.length) : Nat) : Int)
          rw [hW, e1, e3]
      · have hiP : i = P := by (first | omega | (simp only [ilt_t, ilt_f, ile_t, ile_f, ieq_t, ieq_f, ofn, List.length_map, Bool.not_eq_true', Bool.not_eq_false'] at *; omega))
        subst hiP
        obtain ⟨W, hW⟩ : ∃ W, valD (e.take i) * 10 ^ (i - e.length) = W := ⟨_, rfl⟩
        have hW13 : W < 10000000000000 := by have h1 := hw i; have h2 := h13 i hP13; rw [hW] at h1; omega
        obtain ⟨Z, hZ⟩ : ∃ Z : Nat, (-n).toNat = Z := ⟨_, rfl⟩
        have eZ : imax (Int.ofNat 0) (isub .i64 0 n) = (Z : Int) := by rw [imax_d, isub64 (by omega) (by omega), ofn]; split <;> omega
        have hZ5 : Z ≤ 5 := by omega
        have eP : imin ((e.map byteRow).length : Int) (imax (Int.ofNat 0) n) = ((min e.length i : Nat) : Int) := by rw [eM, imin_d, List.length_map]; split <;> omega
        have hcut : icut (e.map byteRow) (imin ((e.map byteRow).length : Int) (imax (Int.ofNat 0) n)) ((e.map byteRow).length : Int) = some ((e.drop (min e.length i)).map byteRow) := by
          rw [eP, icut_t (by omega) (by rw [List.length_map]; omega) (Int.le_refl _), Int.toNat_natCast, Int.toNat_natCast, List.take_length, List.map_drop]
        have hfin : ∀ (m : List UInt8) (ca : Nat), digsOk m → m.length = (List.replicate Z 0 ++ e.drop (min e.length i)).length → valD m + ca * 10 ^ m.length = valD (List.replicate Z 0 ++ e.drop (min e.length i)) * sc →
            N = W * sc + ca + (if 5 ≤ (m.headD 0).toNat then 1 else 0) := fun m ca h1 h2 h3 => by rw [← hN2, ← hW]; exact rnd_fin hP hZ h1 h2 h3
        clear hw h13
        repeat' (first
          | (refine vb_t rfl ?_; conv => whnf)
          | (refine vb_f rfl ?_; conv => whnf)
          | (refine vb_t (by assumption) ?_; conv => whnf)
          | (refine vb_f (by assumption) ?_; conv => whnf)
          | fail)
        refine vloop_eq2 (fr' := [(0, .d (.sl 1 (e.map byteRow))), (1, I n), (2, I (sc : Int)), (6, I 0), (7, B false), (8, I (W : Int)), (10, restV none), (60, I (Z : Int)), (61, I ((0 : Nat) : Int))]) (h' := restH 5 none) ?_ rfl ?_
        · exact cons_eq rfl (cons_eq rfl (cons_eq rfl (cons_eq rfl (cons_eq rfl (cons_eq (slot_eq (I_eq (congrArg Int.ofNat hW))) (cons_eq rfl (cons_eq (slot_eq (I_eq eZ)) rfl)))))))
        refine vloop_by (σ := { x : Nat × Option (Nat × List UInt8) // x.1 ≤ Z ∧ bys x.2 = List.replicate x.1 0 })
          (fun x => [(0, .d (.sl 1 (e.map byteRow))), (1, I n), (2, I (sc : Int)), (6, I 0), (7, B false), (8, I (W : Int)), (10, restV x.1.2), (60, I (Z : Int)), (61, I (x.1.1 : Int))])
          (fun x => restH 5 x.1.2) (fun x => Z - x.1.1) ?_ ⟨(0, none), Nat.zero_le _, rfl⟩
        rintro ⟨⟨j, x⟩, hj, hx⟩
        simp only at hj hx
        rcases x with _ | ⟨g, l⟩
        · conv => whnf
          refine vb_i (fun h => ?_) (fun h => ?_) <;> conv => whnf
          · have hjZ : j < Z := by (first | omega | (simp only [ilt_t, ilt_f, ile_t, ile_f, ieq_t, ieq_f, ofn, List.length_map, Bool.not_eq_true', Bool.not_eq_false'] at *; omega))
            have hj0 : j = 0 := by have := congrArg List.length hx; simp [bys] at this; omega
            subst hj0
            repeat' (first
              | (refine vb_t rfl ?_; conv => whnf)
              | (refine vb_f rfl ?_; conv => whnf)
              | (refine vb_t (by assumption) ?_; conv => whnf)
              | (refine vb_f (by assumption) ?_; conv => whnf)
              | (refine vb_t (room_t (by decide)) ?_; conv => whnf)
              | fail)
            exact ⟨⟨(1, some (0, [0])), hjZ, rfl⟩, by simp only; omega,
              cons_eq rfl (cons_eq rfl (cons_eq rfl (cons_eq rfl (cons_eq rfl (cons_eq rfl (cons_eq rfl (cons_eq rfl (cons_eq (slot_eq (I_eq (iadd_one (i := 0) (by omega)))) rfl)))))))), rfl, rfl, rfl⟩
          · have hjZ : j = Z := by (first | omega | (simp only [ilt_t, ilt_f, ile_t, ile_f, ieq_t, ieq_f, ofn, List.length_map, Bool.not_eq_true', Bool.not_eq_false'] at *; omega))
            have hj0 : j = 0 := by have := congrArg List.length hx; simp [bys] at this; omega
            repeat' (first
              | (refine vb_t rfl ?_; conv => whnf)
              | (refine vb_f rfl ?_; conv => whnf)
              | (refine vb_t (by assumption) ?_; conv => whnf)
              | (refine vb_f (by assumption) ?_; conv => whnf)
              | (refine vo_i hcut ?_; conv => whnf)
              | (refine vb_t (room_t (by simp <;> omega)) ?_; conv => whnf)
              | fail)
            have hL0 : List.replicate Z 0 ++ e.drop (min e.length i) = e.drop (min e.length i) := by rw [← hjZ, hj0]; rfl
            rw [hL0] at hfin
            have hLd : digsOk (e.drop (min e.length i)) := fun x hx => heg x (List.mem_of_mem_drop hx)
            have hL : (e.drop (min e.length i)).length ≤ 1000006 := by simp only [List.length_append, List.length_drop]; omega
            obtain ⟨g4, hg4⟩ : ∃ g4 : Nat, (0) = g4 := ⟨_, rfl⟩
            refine vloop_eq2 (fr' := [(2, I (sc : Int)), (6, I 0), (7, B false), (8, I (W : Int)), (10, .osl 0 g4 0 (e.drop (min e.length i)).length), (11, I ((0 : Nat) : Int)), (12, I (((e.drop (min e.length i)).length : Int) - 1))]) (h' := [⟨.mine, 5, .arr true g4 1 ((e.drop (min e.length i)).map byteRow)⟩]) ?_ ?_ ?_
            · exact cons_eq rfl (cons_eq rfl (cons_eq rfl (cons_eq rfl (cons_eq (slot_eq (osl_eq hg4 (by simp))) (cons_eq rfl (cons_eq (slot_eq (I_eq (by rw [ofn, isub64] <;> simp at * <;> omega))) rfl))))))
            · exact cons_eq (arr_eq2 hg4 (by simp)) rfl
            generalize (e.drop (min e.length i)) = l4 at hL hfin hLd ⊢
            clear hg4
            have hgg : Nat.beq g4 g4 = true := by simp
            refine vloop_by (σ := { x : List UInt8 × Nat × Nat // x.2.2 ≤ l4.length ∧ x.1.length = l4.length ∧ x.2.1 ≤ 999 ∧ digsOk x.1 ∧ x.1.take x.2.2 = l4.take x.2.2 ∧ valD (x.1.drop x.2.2) + x.2.1 * 10 ^ (l4.length - x.2.2) = valD (l4.drop x.2.2) * sc })
              (fun x => [(2, I (sc : Int)), (6, I 0), (7, B false), (8, I (W : Int)), (10, .osl 0 g4 0 l4.length), (11, I (x.1.2.1 : Int)), (12, I ((x.1.2.2 : Int) - 1))])
              (fun x => [⟨.mine, 5, .arr true g4 1 (x.1.1.map byteRow)⟩]) (fun x => x.1.2.2) ?_ ⟨(l4, 0, l4.length), Nat.le_refl _, rfl, Nat.zero_le _, hLd, rfl, by simp [valD]⟩
            rintro ⟨⟨m, ca, k⟩, hk, hm, hca, hmd, hmt, hmv⟩
            simp only at hk hm hca hmd hmt hmv
            conv => whnf
            refine vb_i (fun h => ?_) (fun h => ?_) <;> conv => whnf
            · have hk1 : 1 ≤ k := by (first | omega | (simp only [ilt_t, ilt_f, ile_t, ile_f, ieq_t, ieq_f, ofn, List.length_map, Bool.not_eq_true', Bool.not_eq_false'] at *; omega))
              obtain ⟨q, rfl⟩ : ∃ q, k = q + 1 := ⟨k - 1, by omega⟩
              have eq1 : ((q + 1 : Nat) : Int) - 1 = (q : Int) := by omega
              obtain ⟨c, hc⟩ : ∃ c, l4[q]? = some c := ⟨l4[q], List.getElem?_eq_getElem (by omega)⟩
              have hcm : m[q]? = some c := by
                have h1 : (m.take (q + 1))[q]? = (l4.take (q + 1))[q]? := by rw [hmt]
                rw [List.getElem?_take, List.getElem?_take, if_pos (by omega), if_pos (by omega)] at h1
                rw [h1, hc]
              have hc9 := hLd c (List.mem_of_getElem? hc)
              have hr : iget (((m.map byteRow).take l4.length).drop 0) ((q + 1 : Nat) - 1 : Int) = some (byteRow c) := by
                rw [eq1]; exact iget_sl (by rw [Nat.zero_add, List.getElem?_map, hcm]; rfl) (by omega)
              have hr2 : (m.map byteRow)[0 + (((q + 1 : Nat) : Int) - 1).toNat]? = some (byteRow c) := by
                rw [eq1, Int.toNat_natCast, Nat.zero_add, List.getElem?_map, hcm]; rfl
              have hcs : c.toNat * sc ≤ 9 * 1000 := Nat.mul_le_mul hc9 hsc
              have e1 : iadd .i64 (imul .i64 (icast .i64 (c.toNat : Int)) (sc : Int)) (ca : Int) = ((c.toNat * sc + ca : Nat) : Int) := by
                rw [icast64 (by omega) (by omega), imul64 (by rw [← Int.natCast_mul]; omega) (by rw [← Int.natCast_mul]; omega), ← Int.natCast_mul, iadd64 (by omega) (by omega)]; omega
              obtain ⟨x, hx⟩ : ∃ x, c.toNat * sc + ca = x := ⟨_, rfl⟩
              rw [hx] at e1
              have hx9 : x ≤ 9999 := by omega
              repeat' (first
                | (refine vb_t rfl ?_; conv => whnf)
                | (refine vb_f rfl ?_; conv => whnf)
                | (refine vb_t (by assumption) ?_; conv => whnf)
                | (refine vb_f (by assumption) ?_; conv => whnf)
                | (refine vo_i hr ?_; conv => whnf)
                | (refine vo_i hr2 ?_; conv => whnf)
                | (rw [iz_ten]; conv => whnf)
                | fail)
              refine ⟨⟨(m.set q (UInt8.ofNat (x % 10)), x / 10, q), by show q ≤ l4.length; omega, by rw [List.length_set]; exact hm, by show x / 10 ≤ 999; omega, set_dig hmd (by omega), ?_, ?_⟩, by simp only; omega,
                cons_eq rfl (cons_eq rfl (cons_eq rfl (cons_eq rfl (cons_eq rfl (cons_eq (slot_eq (I_eq ?_)) (cons_eq (slot_eq (I_eq ?_)) rfl)))))), cons_eq (arr_eq ?_) rfl, rfl, rfl⟩
              · show (m.set q (UInt8.ofNat (x % 10))).take q = l4.take q
                rw [set_take]
                have h1 := congrArg (List.take q) hmt
                rwa [List.take_take, List.take_take, Nat.min_eq_left (by omega)] at h1
              · show valD ((m.set q (UInt8.ofNat (x % 10))).drop q) + x / 10 * 10 ^ (l4.length - q) = valD (l4.drop q) * sc
                rw [set_drop (by rw [hm]; exact hk), drop_get1 hc]
                have hl1 : (m.drop (q + 1)).length = l4.length - (q + 1) := by rw [List.length_drop, hm]
                have hl2 : l4.length - q = l4.length - (q + 1) + 1 := by omega
                have h2 := mul_step (c := c.toNat) hmv
                rw [hx] at h2
                simp only [valD, hl1, List.length_drop, of_dig (show x % 10 < 256 by omega)]
                rw [hl2, Nat.pow_succ]
                exact h2
              · show iquo .i64 (iadd .i64 (imul .i64 (icast .i64 (c.toNat : Int)) (sc : Int)) (ca : Int)) (Int.ofNat 10) = ((x / 10 : Nat) : Int)
                rw [e1, g_ofn, g_quo (by omega)]
              · show isub .i64 (((q + 1 : Nat) : Int) - 1) (Int.ofNat 1) = (q : Int) - 1
                rw [eq1, ofn, isub64 (by omega) (by omega)]; rfl
              · show (m.map byteRow).set (0 + (((q + 1 : Nat) : Int) - 1).toNat) [DV.int .u8 (icast .u8 (irem (iadd .i64 (imul .i64 (icast .i64 (c.toNat : Int)) (sc : Int)) (ca : Int)) (Int.ofNat 10)))] = (m.set q (UInt8.ofNat (x % 10))).map byteRow
                rw [eq1, Int.toNat_natCast, Nat.zero_add, e1, g_ofn, u_rem, List.map_set, dig_row (show x % 10 < 256 by omega)]
            · have hk0 : k = 0 := by (first | omega | (simp only [ilt_t, ilt_f, ile_t, ile_f, ieq_t, ieq_f, ofn, List.length_map, Bool.not_eq_true', Bool.not_eq_false'] at *; omega))
              subst hk0
              simp only [List.drop_zero, Nat.sub_zero] at hmv
              have hNe := hfin m ca hmd hm (by rw [hm]; exact hmv)
              have hz : ((l4.length : Int) - ((0 : Nat) : Int)) = l4.length := by omega
              cases m with
              | nil =>
                have q1 : ilt (Int.ofNat 0) ((l4.length : Int) - ((0 : Nat) : Int)) = false := by rw [ilt_f, ← hm, ofn]; simp
                have hWs : W * sc ≤ 9999999999999 * 1000 := Nat.mul_le_mul (by omega) hsc
                have e1 : iadd .i64 (imul .i64 (W : Int) (sc : Int)) (ca : Int) = ((W * sc + ca : Nat) : Int) := by
                  rw [imul64 (by rw [← Int.natCast_mul]; omega) (by rw [← Int.natCast_mul]; omega), ← Int.natCast_mul, iadd64 (by omega) (by omega)]; omega
                repeat' (first
                  | (refine vb_t rfl ?_; conv => whnf)
                  | (refine vb_f rfl ?_; conv => whnf)
                  | (refine vb_t (by assumption) ?_; conv => whnf)
                  | (refine vb_f (by assumption) ?_; conv => whnf)
                  | fail)
                refine ⟨(_, _), rfl, rfl, ?_⟩
                have hN0 : N = W * sc + ca := hNe
                show ile (iadd .i64 (imul .i64 (W : Int) (sc : Int)) (ca : Int)) (Int.ofNat 68719476736) = decide (N ≤ 68719476736) ∧ (_ → iadd .i64 (imul .i64 (W : Int) (sc : Int)) (ca : Int) = (N : Nat))
                rw [e1, hN0, ile_d, ofn]
                exact ⟨by rw [decide_eq_decide]; omega, fun _ => rfl⟩
              | cons c m =>
                have q1 : ilt (Int.ofNat 0) ((l4.length : Int) - ((0 : Nat) : Int)) = true := by rw [ilt_t, ← hm, ofn]; simp
                have hr3 : (((c :: m) : List UInt8).map byteRow)[0 + (Int.ofNat 0).toNat]? = some (byteRow c) := rfl
                have hWs : W * sc ≤ 9999999999999 * 1000 := Nat.mul_le_mul (by omega) hsc
                have e1 : iadd .i64 (imul .i64 (W : Int) (sc : Int)) (ca : Int) = ((W * sc + ca : Nat) : Int) := by
                  rw [imul64 (by rw [← Int.natCast_mul]; omega) (by rw [← Int.natCast_mul]; omega), ← Int.natCast_mul, iadd64 (by omega) (by omega)]; omega
                have hr : iget ((((c :: m).map byteRow).take l4.length).drop 0) (Int.ofNat 0) = some (byteRow c) := iget_sl (lo := 0) (hi := l4.length) (i := 0) rfl (by rw [← hm]; simp)
                by_cases h5 : 5 ≤ c.toNat
                · have q3 : ile (Int.ofNat 5) (c.toNat : Int) = true := by rw [ile_t, ofn]; omega
                  have hN0 : N = W * sc + ca + 1 := by rw [hNe]; show _ + (if 5 ≤ c.toNat then 1 else 0) = _; rw [if_pos h5]
                  have e4 : iadd .i64 (iadd .i64 (imul .i64 (W : Int) (sc : Int)) (ca : Int)) (Int.ofNat 1) = ((W * sc + ca + 1 : Nat) : Int) := by rw [e1]; exact iadd_one (by omega)
                  repeat' (first
                    | (refine vb_t rfl ?_; conv => whnf)
                    | (refine vb_f rfl ?_; conv => whnf)
                    | (refine vb_t (by assumption) ?_; conv => whnf)
                    | (refine vb_f (by assumption) ?_; conv => whnf)
                    | (refine vo_i hr ?_; conv => whnf)
                    | (refine vo_i hr3 ?_; conv => whnf)
                    | fail)
                  refine ⟨(_, _), rfl, rfl, ?_⟩
                  show ile (iadd .i64 (iadd .i64 (imul .i64 (W : Int) (sc : Int)) (ca : Int)) (Int.ofNat 1)) (Int.ofNat 68719476736) = decide (N ≤ 68719476736) ∧ (_ → iadd .i64 (iadd .i64 (imul .i64 (W : Int) (sc : Int)) (ca : Int)) (Int.ofNat 1) = (N : Nat))
                  rw [e4, hN0, ile_d, ofn]
                  exact ⟨by rw [decide_eq_decide]; omega, fun _ => rfl⟩
                · have q3 : ile (Int.ofNat 5) (c.toNat : Int) = false := by rw [ile_f, ofn]; omega
                  have hN0 : N = W * sc + ca := by rw [hNe]; show _ + (if 5 ≤ c.toNat then 1 else 0) = _; rw [if_neg h5]; rfl
                  repeat' (first
                    | (refine vb_t rfl ?_; conv => whnf)
                    | (refine vb_f rfl ?_; conv => whnf)
                    | (refine vb_t (by assumption) ?_; conv => whnf)
                    | (refine vb_f (by assumption) ?_; conv => whnf)
                    | (refine vo_i hr ?_; conv => whnf)
                    | (refine vo_i hr3 ?_; conv => whnf)
                    | fail)
                  refine ⟨(_, _), rfl, rfl, ?_⟩
                  show ile (iadd .i64 (imul .i64 (W : Int) (sc : Int)) (ca : Int)) (Int.ofNat 68719476736) = decide (N ≤ 68719476736) ∧ (_ → iadd .i64 (imul .i64 (W : Int) (sc : Int)) (ca : Int) = (N : Nat))
                  rw [e1, hN0, ile_d, ofn]
                  exact ⟨by rw [decide_eq_decide]; omega, fun _ => rfl⟩
        · have hll : l.length = j := by have := congrArg List.length hx; simpa [bys] using this
          conv => whnf
          refine vb_i (fun h => ?_) (fun h => ?_) <;> conv => whnf
          · have hjZ : j < Z := by (first | omega | (simp only [ilt_t, ilt_f, ile_t, ile_f, ieq_t, ieq_f, ofn, List.length_map, Bool.not_eq_true', Bool.not_eq_false'] at *; omega))
            have hg : Nat.beq g g = true := by simp
            have hq : ieq (l.length : Int) ((l.map byteRow).length : Int) = true := by rw [ieq_t]; simp
            repeat' (first
              | (refine vb_t rfl ?_; conv => whnf)
              | (refine vb_f rfl ?_; conv => whnf)
              | (refine vb_t (by assumption) ?_; conv => whnf)
              | (refine vb_f (by assumption) ?_; conv => whnf)
              | (refine vb_t (room_t (by simp <;> omega)) ?_; conv => whnf)
              | fail)
            refine ⟨⟨(j + 1, some (g + 1, l ++ [0])), hjZ, ?_⟩, by simp only; omega,
              cons_eq rfl (cons_eq rfl (cons_eq rfl (cons_eq rfl (cons_eq rfl (cons_eq rfl (cons_eq (slot_eq (osl_eq rfl (by simp))) (cons_eq rfl (cons_eq (slot_eq (I_eq (iadd_one (i := j) (by omega)))) rfl)))))))), cons_eq (arr_eq (by simp; rfl)) rfl, rfl, rfl⟩
            show l ++ [0] = List.replicate (j + 1) 0
            have hx2 : l = List.replicate j 0 := hx
            rw [hx2, List.replicate_succ']
          · have hjZ : j = Z := by (first | omega | (simp only [ilt_t, ilt_f, ile_t, ile_f, ieq_t, ieq_f, ofn, List.length_map, Bool.not_eq_true', Bool.not_eq_false'] at *; omega))
            have hg : Nat.beq g g = true := by simp
            have hq : ieq (l.length : Int) ((l.map byteRow).length : Int) = true := by rw [ieq_t]; simp
            repeat' (first
              | (refine vb_t rfl ?_; conv => whnf)
              | (refine vb_f rfl ?_; conv => whnf)
              | (refine vb_t (by assumption) ?_; conv => whnf)
              | (refine vb_f (by assumption) ?_; conv => whnf)
              | (refine vo_i hcut ?_; conv => whnf)
              | (refine vb_t (room_t (by simp <;> omega)) ?_; conv => whnf)
              | fail)
            have hx2 : l = List.replicate Z 0 := by rw [← hjZ]; exact hx
            rw [← hx2] at hfin
            have hLd : digsOk (l ++ e.drop (min e.length i)) := digsOk_append (by rw [hx2]; intro c hc; rw [List.eq_of_mem_replicate hc]; decide) fun x hx => heg x (List.mem_of_mem_drop hx)
            have hL : (l ++ e.drop (min e.length i)).length ≤ 1000006 := by simp only [List.length_append, List.length_drop]; omega
            obtain ⟨g4, hg4⟩ : ∃ g4 : Nat, (g + 1) = g4 := ⟨_, rfl⟩
            refine vloop_eq2 (fr' := [(2, I (sc : Int)), (6, I 0), (7, B false), (8, I (W : Int)), (10, .osl 0 g4 0 (l ++ e.drop (min e.length i)).length), (11, I ((0 : Nat) : Int)), (12, I (((l ++ e.drop (min e.length i)).length : Int) - 1))]) (h' := [⟨.mine, 5, .arr true g4 1 ((l ++ e.drop (min e.length i)).map byteRow)⟩]) ?_ ?_ ?_
            · exact cons_eq rfl (cons_eq rfl (cons_eq rfl (cons_eq rfl (cons_eq (slot_eq (osl_eq hg4 (by simp))) (cons_eq rfl (cons_eq (slot_eq (I_eq (by rw [ofn, isub64] <;> simp at * <;> omega))) rfl))))))
            · exact cons_eq (arr_eq2 hg4 (by simp)) rfl
            generalize (l ++ e.drop (min e.length i)) = l4 at hL hfin hLd ⊢
            clear hg4
            have hgg : Nat.beq g4 g4 = true := by simp
            refine vloop_by (σ := { x : List UInt8 × Nat × Nat // x.2.2 ≤ l4.length ∧ x.1.length = l4.length ∧ x.2.1 ≤ 999 ∧ digsOk x.1 ∧ x.1.take x.2.2 = l4.take x.2.2 ∧ valD (x.1.drop x.2.2) + x.2.1 * 10 ^ (l4.length - x.2.2) = valD (l4.drop x.2.2) * sc })
              (fun x => [(2, I (sc : Int)), (6, I 0), (7, B false), (8, I (W : Int)), (10, .osl 0 g4 0 l4.length), (11, I (x.1.2.1 : Int)), (12, I ((x.1.2.2 : Int) - 1))])
              (fun x => [⟨.mine, 5, .arr true g4 1 (x.1.1.map byteRow)⟩]) (fun x => x.1.2.2) ?_ ⟨(l4, 0, l4.length), Nat.le_refl _, rfl, Nat.zero_le _, hLd, rfl, by simp [valD]⟩
            rintro ⟨⟨m, ca, k⟩, hk, hm, hca, hmd, hmt, hmv⟩
            simp only at hk hm hca hmd hmt hmv
            conv => whnf
            refine vb_i (fun h => ?_) (fun h => ?_) <;> conv => whnf
            · have hk1 : 1 ≤ k := by (first | omega | (simp only [ilt_t, ilt_f, ile_t, ile_f, ieq_t, ieq_f, ofn, List.length_map, Bool.not_eq_true', Bool.not_eq_false'] at *; omega))
              obtain ⟨q, rfl⟩ : ∃ q, k = q + 1 := ⟨k - 1, by omega⟩
              have eq1 : ((q + 1 : Nat) : Int) - 1 = (q : Int) := by omega
              obtain ⟨c, hc⟩ : ∃ c, l4[q]? = some c := ⟨l4[q], List.getElem?_eq_getElem (by omega)⟩
              have hcm : m[q]? = some c := by
                have h1 : (m.take (q + 1))[q]? = (l4.take (q + 1))[q]? := by rw [hmt]
                rw [List.getElem?_take, List.getElem?_take, if_pos (by omega), if_pos (by omega)] at h1
                rw [h1, hc]
              have hc9 := hLd c (List.mem_of_getElem? hc)
              have hr : iget (((m.map byteRow).take l4.length).drop 0) ((q + 1 : Nat) - 1 : Int) = some (byteRow c) := by
                rw [eq1]; exact iget_sl (by rw [Nat.zero_add, List.getElem?_map, hcm]; rfl) (by omega)
              have hr2 : (m.map byteRow)[0 + (((q + 1 : Nat) : Int) - 1).toNat]? = some (byteRow c) := by
                rw [eq1, Int.toNat_natCast, Nat.zero_add, List.getElem?_map, hcm]; rfl
              have hcs : c.toNat * sc ≤ 9 * 1000 := Nat.mul_le_mul hc9 hsc
              have e1 : iadd .i64 (imul .i64 (icast .i64 (c.toNat : Int)) (sc : Int)) (ca : Int) = ((c.toNat * sc + ca : Nat) : Int) := by
                rw [icast64 (by omega) (by omega), imul64 (by rw [← Int.natCast_mul]; omega) (by rw [← Int.natCast_mul]; omega), ← Int.natCast_mul, iadd64 (by omega) (by omega)]; omega
              obtain ⟨x, hx⟩ : ∃ x, c.toNat * sc + ca = x := ⟨_, rfl⟩
              rw [hx] at e1
              have hx9 : x ≤ 9999 := by omega
              repeat' (first
                | (refine vb_t rfl ?_; conv => whnf)
                | (refine vb_f rfl ?_; conv => whnf)
                | (refine vb_t (by assumption) ?_; conv => whnf)
                | (refine vb_f (by assumption) ?_; conv => whnf)
                | (refine vo_i hr ?_; conv => whnf)
                | (refine vo_i hr2 ?_; conv => whnf)
                | (rw [iz_ten]; conv => whnf)
                | fail)
              refine ⟨⟨(m.set q (UInt8.ofNat (x % 10)), x / 10, q), by show q ≤ l4.length; omega, by rw [List.length_set]; exact hm, by show x / 10 ≤ 999; omega, set_dig hmd (by omega), ?_, ?_⟩, by simp only; omega,
                cons_eq rfl (cons_eq rfl (cons_eq rfl (cons_eq rfl (cons_eq rfl (cons_eq (slot_eq (I_eq ?_)) (cons_eq (slot_eq (I_eq ?_)) rfl)))))), cons_eq (arr_eq ?_) rfl, rfl, rfl⟩
              · show (m.set q (UInt8.ofNat (x % 10))).take q = l4.take q
                rw [set_take]
                have h1 := congrArg (List.take q) hmt
                rwa [List.take_take, List.take_take, Nat.min_eq_left (by omega)] at h1
              · show valD ((m.set q (UInt8.ofNat (x % 10))).drop q) + x / 10 * 10 ^ (l4.length - q) = valD (l4.drop q) * sc
                rw [set_drop (by rw [hm]; exact hk), drop_get1 hc]
                have hl1 : (m.drop (q + 1)).length = l4.length - (q + 1) := by rw [List.length_drop, hm]
                have hl2 : l4.length - q = l4.length - (q + 1) + 1 := by omega
                have h2 := mul_step (c := c.toNat) hmv
                rw [hx] at h2
                simp only [valD, hl1, List.length_drop, of_dig (show x % 10 < 256 by omega)]
                rw [hl2, Nat.pow_succ]
                exact h2
              · show iquo .i64 (iadd .i64 (imul .i64 (icast .i64 (c.toNat : Int)) (sc : Int)) (ca : Int)) (Int.ofNat 10) = ((x / 10 : Nat) : Int)
                rw [e1, g_ofn, g_quo (by omega)]
              · show isub .i64 (((q + 1 : Nat) : Int) - 1) (Int.ofNat 1) = (q : Int) - 1
                rw [eq1, ofn, isub64 (by omega) (by omega)]; rfl
              · show (m.map byteRow).set (0 + (((q + 1 : Nat) : Int) - 1).toNat) [DV.int .u8 (icast .u8 (irem (iadd .i64 (imul .i64 (icast .i64 (c.toNat : Int)) (sc : Int)) (ca : Int)) (Int.ofNat 10)))] = (m.set q (UInt8.ofNat (x % 10))).map byteRow
                rw [eq1, Int.toNat_natCast, Nat.zero_add, e1, g_ofn, u_rem, List.map_set, dig_row (show x % 10 < 256 by omega)]
            · have hk0 : k = 0 := by (first | omega | (simp only [ilt_t, ilt_f, ile_t, ile_f, ieq_t, ieq_f, ofn, List.length_map, Bool.not_eq_true', Bool.not_eq_false'] at *; omega))
              subst hk0
              simp only [List.drop_zero, Nat.sub_zero] at hmv
              have hNe := hfin m ca hmd hm (by rw [hm]; exact hmv)
              have hz : ((l4.length : Int) - ((0 : Nat) : Int)) = l4.length := by omega
              cases m with
              | nil =>
                have q1 : ilt (Int.ofNat 0) ((l4.length : Int) - ((0 : Nat) : Int)) = false := by rw [ilt_f, ← hm, ofn]; simp
                have hWs : W * sc ≤ 9999999999999 * 1000 := Nat.mul_le_mul (by omega) hsc
                have e1 : iadd .i64 (imul .i64 (W : Int) (sc : Int)) (ca : Int) = ((W * sc + ca : Nat) : Int) := by
                  rw [imul64 (by rw [← Int.natCast_mul]; omega) (by rw [← Int.natCast_mul]; omega), ← Int.natCast_mul, iadd64 (by omega) (by omega)]; omega
                repeat' (first
                  | (refine vb_t rfl ?_; conv => whnf)
                  | (refine vb_f rfl ?_; conv => whnf)
                  | (refine vb_t (by assumption) ?_; conv => whnf)
                  | (refine vb_f (by assumption) ?_; conv => whnf)
                  | fail)
                refine ⟨(_, _), rfl, rfl, ?_⟩
                have hN0 : N = W * sc + ca := hNe
                show ile (iadd .i64 (imul .i64 (W : Int) (sc : Int)) (ca : Int)) (Int.ofNat 68719476736) = decide (N ≤ 68719476736) ∧ (_ → iadd .i64 (imul .i64 (W : Int) (sc : Int)) (ca : Int) = (N : Nat))
                rw [e1, hN0, ile_d, ofn]
                exact ⟨by rw [decide_eq_decide]; omega, fun _ => rfl⟩
              | cons c m =>
                have q1 : ilt (Int.ofNat 0) ((l4.length : Int) - ((0 : Nat) : Int)) = true := by rw [ilt_t, ← hm, ofn]; simp
                have hr3 : (((c :: m) : List UInt8).map byteRow)[0 + (Int.ofNat 0).toNat]? = some (byteRow c) := rfl
                have hWs : W * sc ≤ 9999999999999 * 1000 := Nat.mul_le_mul (by omega) hsc
                have e1 : iadd .i64 (imul .i64 (W : Int) (sc : Int)) (ca : Int) = ((W * sc + ca : Nat) : Int) := by
                  rw [imul64 (by rw [← Int.natCast_mul]; omega) (by rw [← Int.natCast_mul]; omega), ← Int.natCast_mul, iadd64 (by omega) (by omega)]; omega
                have hr : iget ((((c :: m).map byteRow).take l4.length).drop 0) (Int.ofNat 0) = some (byteRow c) := iget_sl (lo := 0) (hi := l4.length) (i := 0) rfl (by rw [← hm]; simp)
                by_cases h5 : 5 ≤ c.toNat
                · have q3 : ile (Int.ofNat 5) (c.toNat : Int) = true := by rw [ile_t, ofn]; omega
                  have hN0 : N = W * sc + ca + 1 := by rw [hNe]; show _ + (if 5 ≤ c.toNat then 1 else 0) = _; rw [if_pos h5]
                  have e4 : iadd .i64 (iadd .i64 (imul .i64 (W : Int) (sc : Int)) (ca : Int)) (Int.ofNat 1) = ((W * sc + ca + 1 : Nat) : Int) := by rw [e1]; exact iadd_one (by omega)
                  repeat' (first
                    | (refine vb_t rfl ?_; conv => whnf)
                    | (refine vb_f rfl ?_; conv => whnf)
                    | (refine vb_t (by assumption) ?_; conv => whnf)
                    | (refine vb_f (by assumption) ?_; conv => whnf)
                    | (refine vo_i hr ?_; conv => whnf)
                    | (refine vo_i hr3 ?_; conv => whnf)
                    | fail)
                  refine ⟨(_, _), rfl, rfl, ?_⟩
                  show ile (iadd .i64 (iadd .i64 (imul .i64 (W : Int) (sc : Int)) (ca : Int)) (Int.ofNat 1)) (Int.ofNat 68719476736) = decide (N ≤ 68719476736) ∧ (_ → iadd .i64 (iadd .i64 (imul .i64 (W : Int) (sc : Int)) (ca : Int)) (Int.ofNat 1) = (N : Nat))
                  rw [e4, hN0, ile_d, ofn]
                  exact ⟨by rw [decide_eq_decide]; omega, fun _ => rfl⟩
                · have q3 : ile (Int.ofNat 5) (c.toNat : Int) = false := by rw [ile_f, ofn]; omega
                  have hN0 : N = W * sc + ca := by rw [hNe]; show _ + (if 5 ≤ c.toNat then 1 else 0) = _; rw [if_neg h5]; rfl
                  repeat' (first
                    | (refine vb_t rfl ?_; conv => whnf)
                    | (refine vb_f rfl ?_; conv => whnf)
                    | (refine vb_t (by assumption) ?_; conv => whnf)
                    | (refine vb_f (by assumption) ?_; conv => whnf)
                    | (refine vo_i hr ?_; conv => whnf)
                    | (refine vo_i hr3 ?_; conv => whnf)
                    | fail)
                  refine ⟨(_, _), rfl, rfl, ?_⟩
                  show ile (iadd .i64 (imul .i64 (W : Int) (sc : Int)) (ca : Int)) (Int.ofNat 68719476736) = decide (N ≤ 68719476736) ∧ (_ → iadd .i64 (imul .i64 (W : Int) (sc : Int)) (ca : Int) = (N : Nat))
                  rw [e1, hN0, ile_d, ofn]
                  exact ⟨by rw [decide_eq_decide]; omega, fun _ => rfl⟩
end Go.Proofs.YtapnjabhcdlhbaaGreatDoor.Ab
namespace Go.Proofs.YtapnjabhcdlhbaaGreatDoor.Ab
open Go
set_option linter.unusedSimpArgs false
set_option maxRecDepth 100000
set_option linter.unusedVariables false
set_option maxHeartbeats 4000000
/-- The exponent, as far as it matters. -/
def expS (n : Nat) (c : UInt8) : Nat := if isDig c = true then min 1000 (10 * n + (c.toNat - 48)) else n
def expD (l : List UInt8) : Nat := l.foldl expS 0
def expV (x : List UInt8) : Int := if x[0]? = some 45 then -(expD x : Int) else expD x
theorem expS_le {n : Nat} (c : UInt8) (h : n ≤ 1000) : expS n c ≤ 1000 := by unfold expS; split <;> omega
theorem fold_le : ∀ (l : List UInt8) (n : Nat), n ≤ 1000 → l.foldl expS n ≤ 1000
  | [], n, h => h
  | c :: l, n, h => fold_le l _ (expS_le c h)
theorem expD_le (l : List UInt8) : expD l ≤ 1000 := fold_le l 0 (by omega)
theorem isub_dig {c : UInt8} (h : isDig c = true) : isub .u8 (c.toNat : Int) (Int.ofNat 48) = ((c.toNat - 48 : Nat) : Int) := by
  simp only [isDig, Bool.and_eq_true, decide_eq_true_eq] at h
  unfold isub
  simp only [IntKind.wrap, IntKind.signed, IntKind.bits, Bool.false_and, Bool.false_eq_true, if_false, ofn]
  omega
theorem exponentX_ok (p : NumP) (hp : p.exp.length ≤ 140737488355328) : Pur F0 173 [numA p] [] .no (.ret (I (expV p.exp))) .no := by
  refine pur_code code173_ok ?_
  conv => whnf
  refine vloop_by (σ := { i : Nat // i ≤ p.exp.length }) (fun i => [(1, .ptr 0 0), (2, I 0), (3, I (expD (p.exp.take i.1) : Nat)), (7, I p.exp.length), (8, I (i.1 : Int))])
    (fun _ => [⟨.mine, _, .fix [B p.below, S p.whole, S p.part, S p.exp, I p.stop]⟩]) (fun i => p.exp.length - i.1) ?_ ⟨0, Nat.zero_le _⟩
  rintro ⟨i, hi⟩
  conv => whnf
  refine vb_i (fun h => ?_) (fun h => ?_) <;> conv => whnf
  · have hlt : i < p.exp.length := by (first | omega | (simp only [ilt_t, ilt_f, ile_t, ile_f, ieq_t, ieq_f, ofn, List.length_map, Bool.not_eq_true', Bool.not_eq_false'] at *; omega))
    obtain ⟨c, hc⟩ : ∃ c, p.exp[i]? = some c := ⟨p.exp[i], List.getElem?_eq_getElem hlt⟩
    have hg : iget p.exp (i : Int) = some c := iget_t hc
    have hle := expD_le (p.exp.take i)
    have hnext : expD (p.exp.take (i + 1)) = expS (expD (p.exp.take i)) c := by
      unfold expD
      rw [List.take_add_one, hc, List.foldl_append]; rfl
    obtain ⟨n, hn⟩ : ∃ n, expD (p.exp.take i) = n := ⟨_, rfl⟩
    rw [hn] at hle hnext
    by_cases hd : isDig c = true
    · have hd2 := hd
      simp only [isDig, Bool.and_eq_true, decide_eq_true_eq] at hd2
      have e1 : imin (Int.ofNat 1000) (iadd .i64 (imul .i64 (Int.ofNat 10) (n : Int)) (icast .i64 (isub .u8 (c.toNat : Int) (Int.ofNat 48)))) = ((expS n c : Nat) : Int) := by
        rw [isub_dig hd, ofn, ofn, imul64 (by omega) (by omega), icast64 (by omega) (by omega), iadd64 (by omega) (by omega), imin_d]
        unfold expS; rw [if_pos hd]
        split <;> omega
      repeat' (first
        | (refine vb_t rfl ?_; conv => whnf)
        | (refine vb_f rfl ?_; conv => whnf)
        | (refine vb_t (by assumption) ?_; conv => whnf)
        | (refine vb_f (by assumption) ?_; conv => whnf)
        | (refine vo_i hg ?_; conv => whnf)
        | (refine vpur_i (digit_ok c) ?_; conv => whnf)
        | fail)
      refine ⟨⟨i + 1, hlt⟩, by simp only; omega, cons_eq rfl (cons_eq rfl (cons_eq (slot_eq (I_eq ?_)) (cons_eq rfl (cons_eq (slot_eq (I_eq (iadd_one (i := i) (by omega)))) rfl)))), rfl, rfl, rfl⟩
      show imin (Int.ofNat 1000) (iadd .i64 (imul .i64 (Int.ofNat 10) ((expD (p.exp.take i) : Nat) : Int)) (icast .i64 (isub .u8 (c.toNat : Int) (Int.ofNat 48)))) = ((expD (p.exp.take (i + 1)) : Nat) : Int)
      rw [hn, hnext, e1]
    · have hd : isDig c = false := by simpa using hd
      repeat' (first
        | (refine vb_t rfl ?_; conv => whnf)
        | (refine vb_f rfl ?_; conv => whnf)
        | (refine vb_t (by assumption) ?_; conv => whnf)
        | (refine vb_f (by assumption) ?_; conv => whnf)
        | (refine vo_i hg ?_; conv => whnf)
        | (refine vpur_i (digit_ok c) ?_; conv => whnf)
        | fail)
      refine ⟨⟨i + 1, hlt⟩, by simp only; omega, cons_eq rfl (cons_eq rfl (cons_eq (slot_eq (I_eq ?_)) (cons_eq rfl (cons_eq (slot_eq (I_eq (iadd_one (i := i) (by omega)))) rfl)))), rfl, rfl, rfl⟩
      show ((expD (p.exp.take i) : Nat) : Int) = ((expD (p.exp.take (i + 1)) : Nat) : Int)
      rw [hn, hnext]; unfold expS; rw [if_neg (by rw [hd]; decide)]
  · have hi2 : i = p.exp.length := by (first | omega | (simp only [ilt_t, ilt_f, ile_t, ile_f, ieq_t, ieq_f, ofn, List.length_map, Bool.not_eq_true', Bool.not_eq_false'] at *; omega))
    have hT : p.exp.take i = p.exp := by rw [hi2, List.take_length]
    have hle := expD_le p.exp
    have hV : ∀ b : Bool, decide (p.exp[0]? = some 45) = b → expV p.exp = if b = true then -(expD p.exp : Int) else expD p.exp := fun b hb => by subst hb; unfold expV; simp
    by_cases hpe : p.exp = []
    · have hq : seq p.exp [] = true := by rw [seq_t]; exact hpe
      have hq2 : (!seq p.exp []) = false := by rw [hq]; rfl
      repeat' (first
        | (refine vb_t rfl ?_; conv => whnf)
        | (refine vb_f rfl ?_; conv => whnf)
        | (refine vb_t (by assumption) ?_; conv => whnf)
        | (refine vb_f (by assumption) ?_; conv => whnf)
        | (rw [hq2]; conv => whnf)
        | fail)
      refine ⟨congrArg CR.ret (I_eq ?_), by trivial⟩
      show ((expD (p.exp.take i) : Nat) : Int) = _
      rw [hT, hV false (by rw [hpe]; rfl)]; rfl
    · have hq : seq p.exp [] = false := by rw [seq_f]; exact hpe
      have hq2 : (!seq p.exp []) = true := by rw [hq]; rfl
      have h0 := List.length_pos_iff.2 hpe
      obtain ⟨c, hc0⟩ : ∃ c, p.exp[0]? = some c := ⟨p.exp[0], List.getElem?_eq_getElem h0⟩
      have hc : iget p.exp (Int.ofNat 0) = some c := iget_t hc0
      by_cases h45 : c = 45
      · have q5 : ieq (c.toNat : Int) (Int.ofNat 45) = true := ieq_c 45 rfl h45
        repeat' (first
          | (refine vb_t rfl ?_; conv => whnf)
          | (refine vb_f rfl ?_; conv => whnf)
          | (refine vb_t (by assumption) ?_; conv => whnf)
          | (refine vb_f (by assumption) ?_; conv => whnf)
          | (rw [hq2]; conv => whnf)
          | (refine vo_i hc ?_; conv => whnf)
          | fail)
        refine ⟨congrArg CR.ret (I_eq ?_), by trivial⟩
        show isub .i64 0 ((expD (p.exp.take i) : Nat) : Int) = _
        rw [hT, hV true (by rw [hc0, h45]; rfl), isub64 (by omega) (by omega), if_pos rfl]; omega
      · have q5 : ieq (c.toNat : Int) (Int.ofNat 45) = false := ieq_nc 45 rfl h45
        repeat' (first
          | (refine vb_t rfl ?_; conv => whnf)
          | (refine vb_f rfl ?_; conv => whnf)
          | (refine vb_t (by assumption) ?_; conv => whnf)
          | (refine vb_f (by assumption) ?_; conv => whnf)
          | (rw [hq2]; conv => whnf)
          | (refine vo_i hc ?_; conv => whnf)
          | fail)
        refine ⟨congrArg CR.ret (I_eq ?_), by trivial⟩
        show ((expD (p.exp.take i) : Nat) : Int) = _
        rw [hT, hV false (by rw [hc0, decide_eq_false_iff_not]; exact fun h => h45 (Option.some.inj h))]; rfl
/-! ### The value -/
def dgt (c : UInt8) : UInt8 := UInt8.ofNat (c.toNat - 48)
def dgs (p : NumP) : List UInt8 := (p.whole ++ p.part).map dgt
def numV (s : List UInt8) (sc : Nat) : Int × Int :=
  if (numP s).stop = 0 ∨ (numP s).stop ≠ s.length ∨ 300 < s.length then (0, 21)
  else if rndN (valD (dgs (numP s)) * sc) (((numP s).part.length : Int) - expV (numP s).exp) ≤ 68719476736 then
    (if (numP s).below = true then -(rndN (valD (dgs (numP s)) * sc) (((numP s).part.length : Int) - expV (numP s).exp) : Int) else (rndN (valD (dgs (numP s)) * sc) (((numP s).part.length : Int) - expV (numP s).exp) : Nat), 0)
  else (0, 10)
theorem tw_all {p : UInt8 → Bool} : ∀ (l : List UInt8) (c : UInt8), c ∈ l.takeWhile p → p c = true
  | [], c, h => by cases h
  | x :: l, c, h => by
    rw [List.takeWhile_cons] at h
    split at h
    · rename_i hp
      rcases List.mem_cons.1 h with rfl | h
      · exact hp
      · exact tw_all l c h
    · cases h
theorem digs_dig (s : List UInt8) (i : Nat) : ∀ c ∈ digs s i, isDig c = true := fun c hc => by
  unfold digs at hc
  exact tw_all _ c hc
theorem digs_le2 (s : List UInt8) (i : Nat) : (digs s i).length ≤ s.length := by
  have := (List.takeWhile_prefix isDig (l := s.drop i)).length_le
  unfold digs; simp at this; omega
theorem pP_dig (s : List UInt8) : ∀ c ∈ pP s, isDig c = true := fun c hc => by
  unfold pP at hc; split at hc
  · exact digs_dig _ _ c hc
  · cases hc
theorem numP_facts (s : List UInt8) : (numP s).whole.length ≤ s.length ∧ (numP s).part.length ≤ s.length ∧ (numP s).exp.length ≤ s.length ∧ ∀ c ∈ (numP s).whole ++ (numP s).part, isDig c = true := by
  have h1 := digs_le2 s (pA s)
  have h2 : (pP s).length ≤ s.length := by
    unfold pP; split
    · exact digs_le2 _ _
    · exact Nat.zero_le _
  have h3 : ∀ c ∈ digs s (pA s) ++ pP s, isDig c = true := fun c hc => by
    rcases List.mem_append.1 hc with hc | hc
    · exact digs_dig _ _ c hc
    · exact pP_dig _ c hc
  unfold numP
  split
  · exact ⟨Nat.zero_le _, Nat.zero_le _, Nat.zero_le _, fun c hc => by cases hc⟩
  · split
    · exact ⟨h1, h2, by simp; omega, h3⟩
    · exact ⟨h1, h2, Nat.zero_le _, h3⟩
theorem dgt_le {c : UInt8} (h : isDig c = true) : (dgt c).toNat ≤ 9 := by
  simp only [isDig, Bool.and_eq_true, decide_eq_true_eq] at h
  unfold dgt; rw [of_dig (by omega)]; omega
theorem dgs_ok {l : List UInt8} (h : ∀ c ∈ l, isDig c = true) : digsOk (l.map dgt) := fun c hc => by
  obtain ⟨x, hx, rfl⟩ := List.mem_map.1 hc
  exact dgt_le (h x hx)
def subK (d : List UInt8) (k : Nat) : List UInt8 := (d.take k).map dgt ++ d.drop k
theorem subK_len (d : List UInt8) (k : Nat) : (subK d k).length = d.length := by unfold subK; simp; omega
theorem subK_get {d : List UInt8} {k : Nat} {c : UInt8} (h : d[k]? = some c) : (subK d k)[k]? = some c := by
  have hk := (List.getElem?_eq_some_iff.1 h).1
  unfold subK
  rw [List.getElem?_append_right (by simp; omega), List.getElem?_drop]
  have : k + (k - ((d.take k).map dgt).length) = k := by simp; omega
  rw [this, h]
theorem subK_set {d : List UInt8} {k : Nat} {c : UInt8} (h : d[k]? = some c) : (subK d k).set k (dgt c) = subK d (k + 1) := by
  have hk := (List.getElem?_eq_some_iff.1 h).1
  have hl : ((d.take k).map dgt).length = k := by simp; omega
  unfold subK
  rw [List.set_append_right _ _ (by omega), hl, Nat.sub_self, drop_get1 h, List.take_add_one, h, List.map_append]
  simp
theorem valueX_ok (s : List UInt8) (sc : Nat) (hsc : sc = 1 ∨ sc = 64 ∨ sc = 1000) (hs : s.length ≤ 100000) : Pur F0 124 [S s, I (sc : Int)] [] .no (.ret (.tup [I (numV s sc).1, I (numV s sc).2])) .no := by
  have q1 : (!decide ((sc : Int) = 1 ∨ (sc : Int) = 64 ∨ (sc : Int) = 1000)) = false := by simp; omega
  obtain ⟨l1, l2, l3, l4⟩ := numP_facts s
  obtain ⟨V, hV⟩ : ∃ V, numV s sc = V := ⟨_, rfl⟩
  rw [hV]
  unfold numV at hV
  refine pur_code code124_ok ?_
  conv => whnf
  repeat' (first
    | (refine vb_t rfl ?_; conv => whnf)
    | (refine vb_f rfl ?_; conv => whnf)
    | (refine vb_t (by assumption) ?_; conv => whnf)
    | (refine vb_f (by assumption) ?_; conv => whnf)
    | (refine vpur_i (isScale_ok (sc : Int)) ?_; conv => whnf)
    | (refine vpur_i (parts_ok s (by omega)) ?_; conv => whnf)
    | fail)
  by_cases h0 : (numP s).stop = 0
  · have q2 : ieq ((numP s).stop : Int) (Int.ofNat 0) = true := by rw [ieq_t, h0]; rfl
    rw [if_pos (.inl h0)] at hV
    subst hV
    repeat' (first
      | (refine vb_t rfl ?_; conv => whnf)
      | (refine vb_f rfl ?_; conv => whnf)
      | (refine vb_t (by assumption) ?_; conv => whnf)
      | (refine vb_f (by assumption) ?_; conv => whnf)
      | fail)
    exact ⟨rfl, rfl⟩
  have q2 : ieq ((numP s).stop : Int) (Int.ofNat 0) = false := by rw [ieq_f, ofn]; omega
  by_cases h1 : (numP s).stop = s.length
  · have q3 : (!ieq ((numP s).stop : Int) (s.length : Int)) = false := by rw [ieq_t.mpr (congrArg _ h1)]; rfl
    by_cases h2 : 300 < s.length
    · have q4 : ilt (Int.ofNat 300) (s.length : Int) = true := by rw [ilt_t, ofn]; omega
      rw [if_pos (.inr (.inr h2))] at hV
      subst hV
      repeat' (first
        | (refine vb_t rfl ?_; conv => whnf)
        | (refine vb_f rfl ?_; conv => whnf)
        | (refine vb_t (by assumption) ?_; conv => whnf)
        | (refine vb_f (by assumption) ?_; conv => whnf)
        | fail)
      exact ⟨rfl, rfl⟩
    · have q4 : ilt (Int.ofNat 300) (s.length : Int) = false := by rw [ilt_f, ofn]; omega
      rw [if_neg (by omega)] at hV
      have hD : ((numP s).whole ++ (numP s).part).length ≤ 200000 := by simp; omega
      have hE := expD_le (numP s).exp
      have hE2 : -1000 ≤ expV (numP s).exp ∧ expV (numP s).exp ≤ 1000 := by unfold expV; split <;> omega
      have hlen : ((((numP s).whole ++ (numP s).part).length : Nat) : Int) - ((numP s).whole.length + expV (numP s).exp) = ((numP s).part.length : Int) - expV (numP s).exp := by rw [List.length_append]; omega
      repeat' (first
        | (refine vb_t rfl ?_; conv => whnf)
        | (refine vb_f rfl ?_; conv => whnf)
        | (refine vb_t (by assumption) ?_; conv => whnf)
        | (refine vb_f (by assumption) ?_; conv => whnf)
        | (refine vb_t (roomS_t (by omega)) ?_; conv => whnf)
        | (refine vb_t (room_t (by simp; omega)) ?_; conv => whnf)
        | fail)
      refine vloop_eq2 (fr' := [(1, I (sc : Int)), (4, I 0), (5, I 0), (6, .ptr 0 0), (7, .osl 1 0 0 ((numP s).whole ++ (numP s).part).length), (38, I ((numP s).whole ++ (numP s).part).length), (39, I ((0 : Nat) : Int))])
        (h' := [⟨.mine, 192, .fix [B (numP s).below, S (numP s).whole, S (numP s).part, S (numP s).exp, I (numP s).stop]⟩, ⟨.mine, 5, .arr false 0 1 ((subK ((numP s).whole ++ (numP s).part) 0).map byteRow)⟩]) ?_ ?_ ?_
      · exact cons_eq rfl (cons_eq rfl (cons_eq rfl (cons_eq rfl (cons_eq rfl (cons_eq (slot_eq (I_eq (by omega))) rfl)))))
      · rfl
      have hdg : dgs (numP s) = ((numP s).whole ++ (numP s).part).map dgt := rfl
      rw [hdg] at hV
      obtain ⟨d0, hd0⟩ : ∃ d0, (numP s).whole ++ (numP s).part = d0 := ⟨_, rfl⟩
      rw [hd0] at hD l4 hV hlen ⊢
      refine vloop_by (σ := { k : Nat // k ≤ d0.length }) (fun k => [(1, I (sc : Int)), (4, I 0), (5, I 0), (6, .ptr 0 0), (7, .osl 1 0 0 d0.length), (38, I d0.length), (39, I (k.1 : Int))])
        (fun k => [⟨.mine, 192, .fix [B (numP s).below, S (numP s).whole, S (numP s).part, S (numP s).exp, I (numP s).stop]⟩, ⟨.mine, 5, .arr false 0 1 ((subK d0 k.1).map byteRow)⟩]) (fun k => d0.length - k.1) ?_ ⟨0, Nat.zero_le _⟩
      rintro ⟨k, hk⟩
      conv => whnf
      refine vb_i (fun h => ?_) (fun h => ?_) <;> conv => whnf
      · have hlt : k < d0.length := by (first | omega | (simp only [ilt_t, ilt_f, ile_t, ile_f, ieq_t, ieq_f, ofn, List.length_map, Bool.not_eq_true', Bool.not_eq_false'] at *; omega))
        obtain ⟨c, hc⟩ : ∃ c, d0[k]? = some c := ⟨d0[k], List.getElem?_eq_getElem hlt⟩
        have hcd := l4 c (List.mem_of_getElem? hc)
        have hr : iget ((((subK d0 k).map byteRow).take d0.length).drop 0) (k : Int) = some (byteRow c) := iget_sl (by rw [Nat.zero_add, List.getElem?_map, subK_get hc]; rfl) (by omega)
        have hr2 : ((subK d0 k).map byteRow)[0 + ((k : Int)).toNat]? = some (byteRow c) := by rw [Int.toNat_natCast, Nat.zero_add, List.getElem?_map, subK_get hc]; rfl
        repeat' (first
          | (refine vb_t rfl ?_; conv => whnf)
          | (refine vb_f rfl ?_; conv => whnf)
          | (refine vb_t (by assumption) ?_; conv => whnf)
          | (refine vb_f (by assumption) ?_; conv => whnf)
          | (refine vo_i hr ?_; conv => whnf)
          | (refine vo_i hr2 ?_; conv => whnf)
          | fail)
        refine ⟨⟨k + 1, hlt⟩, by simp only; omega, cons_eq rfl (cons_eq rfl (cons_eq rfl (cons_eq rfl (cons_eq rfl (cons_eq rfl (cons_eq (slot_eq (I_eq (iadd_one (i := k) (by omega)))) rfl)))))), cons_eq rfl (cons_eq (arr_eq ?_) rfl), rfl, rfl⟩
        show ((subK d0 k).map byteRow).set (0 + ((k : Int)).toNat) [DV.int .u8 (isub .u8 (c.toNat : Int) (Int.ofNat 48))] = (subK d0 (k + 1)).map byteRow
        rw [Int.toNat_natCast, Nat.zero_add, ← subK_set hc, List.map_set, isub_dig hcd]
        have h9 := dgt_le hcd
        have : c.toNat - 48 < 256 := by have := c.toNat_lt; omega
        unfold dgt
        show _ = ((subK d0 k).map byteRow).set k [DV.int .u8 ((UInt8.ofNat (c.toNat - 48)).toNat : Int)]
        rw [of_dig this]
      · have hk2 : k = d0.length := by (first | omega | (simp only [ilt_t, ilt_f, ile_t, ile_f, ieq_t, ieq_f, ofn, List.length_map, Bool.not_eq_true', Bool.not_eq_false'] at *; omega))
        have hsub : subK d0 k = d0.map dgt := by unfold subK; rw [hk2, List.take_length, List.drop_length, List.append_nil]
        have hd : ((((subK d0 k).map byteRow).take d0.length).drop 0) = (d0.map dgt).map byteRow := by rw [List.drop_zero, List.take_of_length_le (by rw [List.length_map, subK_len]; exact Nat.le_refl _), hsub]
        obtain ⟨x, hx, hx1, hx2⟩ := scaledX_ok (d0.map dgt) ((numP s).whole.length + expV (numP s).exp) sc (by omega) (by omega) (by rw [List.length_map]; omega) (dgs_ok l4) (by omega) (by omega)
        rw [List.length_map, hlen] at hx1 hx2
        obtain ⟨N, hN⟩ : ∃ N, rndN (valD (d0.map dgt) * sc) (((numP s).part.length : Int) - expV (numP s).exp) = N := ⟨_, rfl⟩
        rw [hN] at hx1 hx2 hV
        have e1 : iadd .i64 ((numP s).whole.length : Int) (expV (numP s).exp) = ((numP s).whole.length : Int) + expV (numP s).exp := iadd64 (by omega) (by omega)
        obtain ⟨x1, x2⟩ := x
        have hx1 : x2 = decide (N ≤ 68719476736) := hx1
        by_cases hM : N ≤ 68719476736
        · rw [decide_eq_true hM] at hx1
          subst hx1
          have hx3 : x1 = (N : Int) := hx2 rfl
          subst hx3
          rw [if_pos hM] at hV
          repeat' (first
            | (refine vb_t rfl ?_; conv => whnf)
            | (refine vb_f rfl ?_; conv => whnf)
            | (refine vb_t (by assumption) ?_; conv => whnf)
            | (refine vb_f (by assumption) ?_; conv => whnf)
            | (refine vpur_i (exponentX_ok (numP s) (by omega)) ?_; conv => whnf)
            | (rw [hd]; conv => whnf)
            | (rw [e1]; conv => whnf)
            | (refine vpur_i hx ?_; conv => whnf)
            | fail)
          cases hb : (numP s).below with
          | true =>
            rw [hb, if_pos rfl] at hV
            subst hV
            repeat' (first
              | (refine vb_t rfl ?_; conv => whnf)
              | (refine vb_f rfl ?_; conv => whnf)
              | (refine vb_t (by assumption) ?_; conv => whnf)
              | (refine vb_f (by assumption) ?_; conv => whnf)
              | fail)
            refine ⟨?_, rfl⟩
            show CR.ret (.tup [I (isub .i64 0 (N : Int)), I 0]) = CR.ret (.tup [I (-(N : Int)), I 0])
            rw [isub64 (by omega) (by omega), Int.zero_sub]
          | false =>
            rw [hb, if_neg (by decide)] at hV
            subst hV
            repeat' (first
              | (refine vb_t rfl ?_; conv => whnf)
              | (refine vb_f rfl ?_; conv => whnf)
              | (refine vb_t (by assumption) ?_; conv => whnf)
              | (refine vb_f (by assumption) ?_; conv => whnf)
              | fail)
            exact ⟨rfl, rfl⟩
        · rw [decide_eq_false hM] at hx1
          subst hx1
          rw [if_neg hM] at hV
          subst hV
          repeat' (first
            | (refine vb_t rfl ?_; conv => whnf)
            | (refine vb_f rfl ?_; conv => whnf)
            | (refine vb_t (by assumption) ?_; conv => whnf)
            | (refine vb_f (by assumption) ?_; conv => whnf)
            | (refine vpur_i (exponentX_ok (numP s) (by omega)) ?_; conv => whnf)
            | (rw [hd]; conv => whnf)
            | (rw [e1]; conv => whnf)
            | (refine vpur_i hx ?_; conv => whnf)
            | fail)
          exact ⟨rfl, rfl⟩
  · have q3 : (!ieq ((numP s).stop : Int) (s.length : Int)) = true := by rw [ieq_f.mpr (by omega)]; rfl
    rw [if_pos (.inr (.inl h1))] at hV
    subst hV
    repeat' (first
      | (refine vb_t rfl ?_; conv => whnf)
      | (refine vb_f rfl ?_; conv => whnf)
      | (refine vb_t (by assumption) ?_; conv => whnf)
      | (refine vb_f (by assumption) ?_; conv => whnf)
      | fail)
    exact ⟨rfl, rfl⟩
end Go.Proofs.YtapnjabhcdlhbaaGreatDoor.Ab
namespace Go.Proofs.YtapnjabhcdlhbaaGreatDoor.Ab
open Go
set_option linter.unusedSimpArgs false
set_option maxRecDepth 100000
set_option linter.unusedVariables false
set_option maxHeartbeats 4000000
/-- The digits behind the point. -/
def fracT (sc : Nat) : Nat → Nat → List UInt8
  | 0, _ => []
  | k + 1, l => if l = 0 then [] else Lib.decDigits (l * 10 / sc) ++ fracT sc k (l * 10 % sc)
def posText (m sc : Nat) : List UInt8 := Lib.decDigits (m / sc) ++ ((if 0 < m % sc then [46] else []) ++ fracT sc 6 (m % sc))
def isSc (n : Int) : Prop := n = 1 ∨ n = 64 ∨ n = 1000
instance (n : Int) : Decidable (isSc n) := by unfold isSc; infer_instance
def numText (n sc : Int) : List UInt8 := if isPx n = true ∧ isSc sc then (if n < 0 then [45] else []) ++ posText n.natAbs sc.toNat else []
theorem itoa_nat (u : Nat) : Lib.itoa (u : Int) = Lib.decDigits u := by unfold Lib.itoa; rw [if_neg (by omega)]; simp
theorem dec_le (u : Nat) (h : u < 18446744073709551616) : (Lib.decDigits u).length ≤ 20 := by rw [Lib.decDigits_length]; exact Lib.nDigits_le20 u h
theorem itoa_ok (u : Nat) (hu : u ≤ 4611686018427387904) (h : Heap) : Pur F0 117 [I u] h .no (.ret (S (Lib.decDigits u))) .no := by
  refine pur_known (g := kItoa) (by kernel_rfl) ?_
  unfold kItoa
  have : (decide (-9223372036854775808 ≤ (u : Int)) && decide ((u : Int) ≤ 9223372036854775807)) = true := by simp; omega
  simp only [this, itoa_nat]
theorem itoa_ok' {x : Int} {u : Nat} (hx : x = u) (hu : u ≤ 4611686018427387904) (h : Heap) : Pur F0 117 [I x] h .no (.ret (S (Lib.decDigits u))) .no := by subst hx; exact itoa_ok u hu h
theorem i_in {x : Int} (h1 : -9223372036854775808 ≤ x) (h2 : x ≤ 9223372036854775807) : IntKind.wrap .i64 x = x := IntWalk.i64_in _ ⟨h1, h2⟩
theorem i_quo {a b : Nat} (ha : a ≤ 4611686018427387904) : iquo .i64 (a : Int) (b : Int) = ((a / b : Nat) : Int) := by
  unfold iquo
  have e : ((a : Int).tdiv (b : Int)) = ((a / b : Nat) : Int) := rfl
  have := Nat.div_le_self a b
  rw [e]
  generalize a / b = q at *
  rw [i_in (by omega) (by omega)]
theorem i_mulr {a : Nat} (h : a ≤ 1000000) : imul .i64 (a : Int) (Int.ofNat 10) = ((a * 10 : Nat) : Int) := by rw [n_ofn, imul64 (by omega) (by omega), Int.natCast_mul]
theorem frac_zero (k f : Nat) : fracT k f 0 = [] := by cases f <;> simp [fracT]
theorem frac_succ (k f l : Nat) (h : l ≠ 0) : fracT k (f + 1) l = Lib.decDigits (l * 10 / k) ++ fracT k f (l * 10 % k) := by simp [fracT, h]
theorem pow_mod (k f l : Nat) (h : l * 10 ^ (f + 1) % k = 0) : l * 10 % k * 10 ^ f % k = 0 := by
  rw [Nat.mul_mod, Nat.mod_mod, ← Nat.mul_mod, Nat.mul_assoc, ← Nat.pow_succ']
  exact h
theorem pow_first (k l : Nat) (hk : k = 1 ∨ k = 64 ∨ k = 1000) : l * 10 ^ 6 % k = 0 := by
  rcases hk with rfl | rfl | rfl <;> omega
theorem dig_small (l k : Nat) (h : l < k) : (Lib.decDigits (l * 10 / k)).length ≤ 20 := by
  have : l * 10 / k < 10 := by apply Nat.div_lt_of_lt_mul; rw [Nat.mul_comm]; omega
  exact dec_le _ (by omega)
theorem ndText_ok (n sc : Int) : Pur F0 68 [I n, I sc] [] .no (.ret (S (numText n sc))) .no := by
  by_cases hg : isPx n = true ∧ isSc sc
  · obtain ⟨hp, hsc⟩ := hg
    obtain ⟨k, rfl⟩ : ∃ k : Nat, sc = (k : Int) := ⟨sc.toNat, by unfold isSc at hsc; omega⟩
    have hk : k = 1 ∨ k = 64 ∨ k = 1000 := by unfold isSc at hsc; omega
    have hN : numText n k = (if n < 0 then [45] else []) ++ (Lib.decDigits (n.natAbs / k) ++ ((if 0 < n.natAbs % k then [46] else []) ++ fracT k 6 (n.natAbs % k))) := by
      unfold numText; rw [if_pos ⟨hp, hsc⟩]; rfl
    have hb : -68719476736 ≤ n ∧ n ≤ 68719476736 := by simpa [isPx] using hp
    obtain ⟨m, hm0⟩ : ∃ m : Nat, n.natAbs = m := ⟨_, rfl⟩
    have hmb : m ≤ 68719476736 := by omega
    rw [hm0] at hN
    refine pur_code (cf := cfn Tryz.f68) (by kernel_rfl) ?_
    conv => arg 3; reduce
    conv => whnf
    have q1 : (!isPx n) = false := by rw [hp]; rfl
    have q2 : (!decide ((k : Int) = 1 ∨ (k : Int) = 64 ∨ (k : Int) = 1000)) = false := by simp; unfold isSc at hsc; omega
    have q4 : iz (k : Int) = false := iz_u (by omega)
    by_cases hn : n < 0
    · rw [if_pos hn] at hN
      have q3 : ilt n (Int.ofNat 0) = true := by rw [ilt_t]; exact hn
      have hmm : isub .i64 0 n = (m : Int) := by rw [isub64 (by omega) (by omega)]; omega
      repeat' (first
        | (refine vb_t rfl ?_; conv => whnf)
        | (refine vb_f rfl ?_; conv => whnf)
        | (refine vb_t (by assumption) ?_; conv => whnf)
        | (refine vb_f (by assumption) ?_; conv => whnf)
        | (refine vpur_i (fixedIs_ok _) ?_; conv => whnf)
        | (refine vpur_i (isScale_ok _) ?_; conv => whnf)
        | fail)
      have hx0 : iquo .i64 (isub .i64 0 n) (k : Int) = ((m / k : Nat) : Int) := by rw [hmm, i_quo (by omega)]
      have hr0 : irem (isub .i64 0 n) (k : Int) = ((m % k : Nat) : Int) := by rw [hmm, u_rem]
      have hmk : m / k ≤ m := Nat.div_le_self _ _
      have hd0 := dec_le (m / k) (by omega)
      have hlk0 : m % k < k := Nat.mod_lt _ (by omega)
      by_cases hl : 0 < m % k
      · have q5 : ilt (Int.ofNat 0) (irem (isub .i64 0 n) (k : Int)) = true := by rw [hr0, ilt_t]; simp only [Int.ofNat_eq_natCast]; omega
        repeat' (first
          | (refine vb_t rfl ?_; conv => whnf)
          | (refine vb_f rfl ?_; conv => whnf)
          | (refine vb_t (by assumption) ?_; conv => whnf)
          | (refine vb_f (by assumption) ?_; conv => whnf)
          | (refine vpur_i (itoa_ok' hx0 (by omega) []) ?_; conv => whnf)
          | (refine vb_t (roomS_t (by simp; omega)) ?_; conv => whnf)
          | fail)
        rw [hr0]
        obtain ⟨l0, hl0⟩ : ∃ l0 : Nat, m % k = l0 := ⟨_, rfl⟩
        rw [if_pos hl, hl0] at hN
        rw [hl0] at hlk0 ⊢
        have hlk := hlk0
        have hl6 := pow_first k l0 hk
        obtain ⟨s0, hs⟩ : ∃ s0 : List UInt8, ([45] ++ Lib.decDigits (m / k)) ++ [46] = s0 := ⟨_, rfl⟩
        have hs0 : s0.length + 30 * 6 ≤ 400 := by rw [← hs]; simp; omega
        refine vloop_eq2 (fr' := [(1, I k), (4, S []), (5, S s0), (6, I l0)]) (h' := []) ?_ rfl ?_
        · subst hs; rfl
        obtain ⟨T, hTe⟩ : ∃ T : List UInt8, numText n k = T := ⟨_, rfl⟩
        have hT : s0 ++ fracT k 6 l0 = T := by rw [← hTe, hN, ← hs]; simp
        rw [hTe]
        refine vloop_by (σ := { x : List UInt8 × Nat × Nat // x.1 ++ fracT k x.2.2 x.2.1 = T ∧ x.2.1 < k ∧ x.2.1 * 10 ^ x.2.2 % k = 0 ∧ x.1.length + 30 * x.2.2 ≤ 400 }) (fun x => [(1, I k), (4, S []), (5, S x.1.1), (6, I x.1.2.1)]) (fun _ => []) (fun x => x.1.2.2) ?_ ⟨(s0, l0, 6), hT, hlk, hl6, hs0⟩
        rintro ⟨⟨s, l, f⟩, g1, g2, g3, g4⟩
        simp only at g1 g2 g3 g4
        conv => whnf
        refine vb_i (fun h => ?_) (fun h => ?_) <;> conv => whnf
        · have hl0 : l ≠ 0 := by (first | omega | (simp only [ilt_t, ilt_f, ile_t, ile_f, ieq_t, ieq_f, ofn, List.length_map, Bool.not_eq_true', Bool.not_eq_false'] at *; omega))
          cases f with
          | zero => exact absurd (by simpa [Nat.mod_eq_of_lt g2] using g3) hl0
          | succ f =>
            rw [frac_succ _ _ _ hl0] at g1
            have hm : imul .i64 (l : Int) (Int.ofNat 10) = ((l * 10 : Nat) : Int) := i_mulr (by omega)
            have hx : iquo .i64 (imul .i64 (l : Int) (Int.ofNat 10)) (k : Int) = ((l * 10 / k : Nat) : Int) := by rw [hm, i_quo (by omega)]
            have hr : irem (imul .i64 (l : Int) (Int.ofNat 10)) (k : Int) = ((l * 10 % k : Nat) : Int) := by rw [hm, u_rem]
            have hd := dig_small l k g2
            have hrm : roomS (s.length + (Lib.decDigits (l * 10 / k)).length) = true := roomS_t (by omega)
            repeat' (first
              | (refine vb_t rfl ?_; conv => whnf)
              | (refine vb_f rfl ?_; conv => whnf)
              | (refine vb_t (by assumption) ?_; conv => whnf)
              | (refine vb_f (by assumption) ?_; conv => whnf)
              | (refine vpur_i (itoa_ok' hx (Nat.le_trans (Nat.div_le_self _ _) (by omega)) []) ?_; conv => whnf)
              | (refine vb_t hrm ?_; conv => whnf)
              | fail)
            refine ⟨⟨(s ++ Lib.decDigits (l * 10 / k), l * 10 % k, f), by simp only [List.append_assoc]; exact g1, Nat.mod_lt _ (by omega), pow_mod k f l g3, by simp only [List.length_append]; omega⟩, by simp only; omega, cons_eq rfl (cons_eq rfl (cons_eq rfl (cons_eq (slot_eq (I_eq hr)) rfl))), rfl, rfl, rfl⟩
        · have hl0 : l = 0 := by (first | omega | (simp only [ilt_t, ilt_f, ile_t, ile_f, ieq_t, ieq_f, ofn, List.length_map, Bool.not_eq_true', Bool.not_eq_false'] at *; omega))
          subst hl0
          rw [frac_zero, List.append_nil] at g1
          subst g1
          repeat' (first
            | (refine vb_t rfl ?_; conv => whnf)
            | (refine vb_f rfl ?_; conv => whnf)
            | (refine vb_t (by assumption) ?_; conv => whnf)
            | (refine vb_f (by assumption) ?_; conv => whnf)
            | fail)
          exact ⟨rfl, rfl⟩
      · have q5 : ilt (Int.ofNat 0) (irem (isub .i64 0 n) (k : Int)) = false := by rw [hr0, ilt_f]; simp only [Int.ofNat_eq_natCast]; omega
        repeat' (first
          | (refine vb_t rfl ?_; conv => whnf)
          | (refine vb_f rfl ?_; conv => whnf)
          | (refine vb_t (by assumption) ?_; conv => whnf)
          | (refine vb_f (by assumption) ?_; conv => whnf)
          | (refine vpur_i (itoa_ok' hx0 (by omega) []) ?_; conv => whnf)
          | (refine vb_t (roomS_t (by simp; omega)) ?_; conv => whnf)
          | fail)
        rw [hr0]
        obtain ⟨l0, hl0⟩ : ∃ l0 : Nat, m % k = l0 := ⟨_, rfl⟩
        rw [if_neg hl, hl0] at hN
        rw [hl0] at hlk0 ⊢
        have hlk := hlk0
        have hl6 := pow_first k l0 hk
        obtain ⟨s0, hs⟩ : ∃ s0 : List UInt8, [45] ++ Lib.decDigits (m / k) = s0 := ⟨_, rfl⟩
        have hs0 : s0.length + 30 * 6 ≤ 400 := by rw [← hs]; simp; omega
        refine vloop_eq2 (fr' := [(1, I k), (4, S []), (5, S s0), (6, I l0)]) (h' := []) ?_ rfl ?_
        · subst hs; rfl
        obtain ⟨T, hTe⟩ : ∃ T : List UInt8, numText n k = T := ⟨_, rfl⟩
        have hT : s0 ++ fracT k 6 l0 = T := by rw [← hTe, hN, ← hs]; simp
        rw [hTe]
        refine vloop_by (σ := { x : List UInt8 × Nat × Nat // x.1 ++ fracT k x.2.2 x.2.1 = T ∧ x.2.1 < k ∧ x.2.1 * 10 ^ x.2.2 % k = 0 ∧ x.1.length + 30 * x.2.2 ≤ 400 }) (fun x => [(1, I k), (4, S []), (5, S x.1.1), (6, I x.1.2.1)]) (fun _ => []) (fun x => x.1.2.2) ?_ ⟨(s0, l0, 6), hT, hlk, hl6, hs0⟩
        rintro ⟨⟨s, l, f⟩, g1, g2, g3, g4⟩
        simp only at g1 g2 g3 g4
        conv => whnf
        refine vb_i (fun h => ?_) (fun h => ?_) <;> conv => whnf
        · have hl0 : l ≠ 0 := by (first | omega | (simp only [ilt_t, ilt_f, ile_t, ile_f, ieq_t, ieq_f, ofn, List.length_map, Bool.not_eq_true', Bool.not_eq_false'] at *; omega))
          cases f with
          | zero => exact absurd (by simpa [Nat.mod_eq_of_lt g2] using g3) hl0
          | succ f =>
            rw [frac_succ _ _ _ hl0] at g1
            have hm : imul .i64 (l : Int) (Int.ofNat 10) = ((l * 10 : Nat) : Int) := i_mulr (by omega)
            have hx : iquo .i64 (imul .i64 (l : Int) (Int.ofNat 10)) (k : Int) = ((l * 10 / k : Nat) : Int) := by rw [hm, i_quo (by omega)]
            have hr : irem (imul .i64 (l : Int) (Int.ofNat 10)) (k : Int) = ((l * 10 % k : Nat) : Int) := by rw [hm, u_rem]
            have hd := dig_small l k g2
            have hrm : roomS (s.length + (Lib.decDigits (l * 10 / k)).length) = true := roomS_t (by omega)
            repeat' (first
              | (refine vb_t rfl ?_; conv => whnf)
              | (refine vb_f rfl ?_; conv => whnf)
              | (refine vb_t (by assumption) ?_; conv => whnf)
              | (refine vb_f (by assumption) ?_; conv => whnf)
              | (refine vpur_i (itoa_ok' hx (Nat.le_trans (Nat.div_le_self _ _) (by omega)) []) ?_; conv => whnf)
              | (refine vb_t hrm ?_; conv => whnf)
              | fail)
            refine ⟨⟨(s ++ Lib.decDigits (l * 10 / k), l * 10 % k, f), by simp only [List.append_assoc]; exact g1, Nat.mod_lt _ (by omega), pow_mod k f l g3, by simp only [List.length_append]; omega⟩, by simp only; omega, cons_eq rfl (cons_eq rfl (cons_eq rfl (cons_eq (slot_eq (I_eq hr)) rfl))), rfl, rfl, rfl⟩
        · have hl0 : l = 0 := by (first | omega | (simp only [ilt_t, ilt_f, ile_t, ile_f, ieq_t, ieq_f, ofn, List.length_map, Bool.not_eq_true', Bool.not_eq_false'] at *; omega))
          subst hl0
          rw [frac_zero, List.append_nil] at g1
          subst g1
          repeat' (first
            | (refine vb_t rfl ?_; conv => whnf)
            | (refine vb_f rfl ?_; conv => whnf)
            | (refine vb_t (by assumption) ?_; conv => whnf)
            | (refine vb_f (by assumption) ?_; conv => whnf)
            | fail)
          exact ⟨rfl, rfl⟩
    · rw [if_neg hn] at hN
      have q3 : ilt n (Int.ofNat 0) = false := by rw [ilt_f]; simp only [Int.ofNat_eq_natCast]; omega
      have hmm : n = (m : Int) := by omega
      repeat' (first
        | (refine vb_t rfl ?_; conv => whnf)
        | (refine vb_f rfl ?_; conv => whnf)
        | (refine vb_t (by assumption) ?_; conv => whnf)
        | (refine vb_f (by assumption) ?_; conv => whnf)
        | (refine vpur_i (fixedIs_ok _) ?_; conv => whnf)
        | (refine vpur_i (isScale_ok _) ?_; conv => whnf)
        | fail)
      have hx0 : iquo .i64 (n) (k : Int) = ((m / k : Nat) : Int) := by rw [hmm, i_quo (by omega)]
      have hr0 : irem (n) (k : Int) = ((m % k : Nat) : Int) := by rw [hmm, u_rem]
      have hmk : m / k ≤ m := Nat.div_le_self _ _
      have hd0 := dec_le (m / k) (by omega)
      have hlk0 : m % k < k := Nat.mod_lt _ (by omega)
      by_cases hl : 0 < m % k
      · have q5 : ilt (Int.ofNat 0) (irem (n) (k : Int)) = true := by rw [hr0, ilt_t]; simp only [Int.ofNat_eq_natCast]; omega
        repeat' (first
          | (refine vb_t rfl ?_; conv => whnf)
          | (refine vb_f rfl ?_; conv => whnf)
          | (refine vb_t (by assumption) ?_; conv => whnf)
          | (refine vb_f (by assumption) ?_; conv => whnf)
          | (refine vpur_i (itoa_ok' hx0 (by omega) []) ?_; conv => whnf)
          | (refine vb_t (roomS_t (by simp; omega)) ?_; conv => whnf)
          | fail)
        rw [hr0]
        obtain ⟨l0, hl0⟩ : ∃ l0 : Nat, m % k = l0 := ⟨_, rfl⟩
        rw [if_pos hl, hl0] at hN
        rw [hl0] at hlk0 ⊢
        have hlk := hlk0
        have hl6 := pow_first k l0 hk
        obtain ⟨s0, hs⟩ : ∃ s0 : List UInt8, ([] ++ Lib.decDigits (m / k)) ++ [46] = s0 := ⟨_, rfl⟩
        have hs0 : s0.length + 30 * 6 ≤ 400 := by rw [← hs]; simp; omega
        refine vloop_eq2 (fr' := [(1, I k), (4, S []), (5, S s0), (6, I l0)]) (h' := []) ?_ rfl ?_
        · subst hs; rfl
        obtain ⟨T, hTe⟩ : ∃ T : List UInt8, numText n k = T := ⟨_, rfl⟩
        have hT : s0 ++ fracT k 6 l0 = T := by rw [← hTe, hN, ← hs]; simp
        rw [hTe]
        refine vloop_by (σ := { x : List UInt8 × Nat × Nat // x.1 ++ fracT k x.2.2 x.2.1 = T ∧ x.2.1 < k ∧ x.2.1 * 10 ^ x.2.2 % k = 0 ∧ x.1.length + 30 * x.2.2 ≤ 400 }) (fun x => [(1, I k), (4, S []), (5, S x.1.1), (6, I x.1.2.1)]) (fun _ => []) (fun x => x.1.2.2) ?_ ⟨(s0, l0, 6), hT, hlk, hl6, hs0⟩
        rintro ⟨⟨s, l, f⟩, g1, g2, g3, g4⟩
        simp only at g1 g2 g3 g4
        conv => whnf
        refine vb_i (fun h => ?_) (fun h => ?_) <;> conv => whnf
        · have hl0 : l ≠ 0 := by (first | omega | (simp only [ilt_t, ilt_f, ile_t, ile_f, ieq_t, ieq_f, ofn, List.length_map, Bool.not_eq_true', Bool.not_eq_false'] at *; omega))
          cases f with
          | zero => exact absurd (by simpa [Nat.mod_eq_of_lt g2] using g3) hl0
          | succ f =>
            rw [frac_succ _ _ _ hl0] at g1
            have hm : imul .i64 (l : Int) (Int.ofNat 10) = ((l * 10 : Nat) : Int) := i_mulr (by omega)
            have hx : iquo .i64 (imul .i64 (l : Int) (Int.ofNat 10)) (k : Int) = ((l * 10 / k : Nat) : Int) := by rw [hm, i_quo (by omega)]
            have hr : irem (imul .i64 (l : Int) (Int.ofNat 10)) (k : Int) = ((l * 10 % k : Nat) : Int) := by rw [hm, u_rem]
            have hd := dig_small l k g2
            have hrm : roomS (s.length + (Lib.decDigits (l * 10 / k)).length) = true := roomS_t (by omega)
            repeat' (first
              | (refine vb_t rfl ?_; conv => whnf)
              | (refine vb_f rfl ?_; conv => whnf)
              | (refine vb_t (by assumption) ?_; conv => whnf)
              | (refine vb_f (by assumption) ?_; conv => whnf)
              | (refine vpur_i (itoa_ok' hx (Nat.le_trans (Nat.div_le_self _ _) (by omega)) []) ?_; conv => whnf)
              | (refine vb_t hrm ?_; conv => whnf)
              | fail)
            refine ⟨⟨(s ++ Lib.decDigits (l * 10 / k), l * 10 % k, f), by simp only [List.append_assoc]; exact g1, Nat.mod_lt _ (by omega), pow_mod k f l g3, by simp only [List.length_append]; omega⟩, by simp only; omega, cons_eq rfl (cons_eq rfl (cons_eq rfl (cons_eq (slot_eq (I_eq hr)) rfl))), rfl, rfl, rfl⟩
        · have hl0 : l = 0 := by (first | omega | (simp only [ilt_t, ilt_f, ile_t, ile_f, ieq_t, ieq_f, ofn, List.length_map, Bool.not_eq_true', Bool.not_eq_false'] at *; omega))
          subst hl0
          rw [frac_zero, List.append_nil] at g1
          subst g1
          repeat' (first
            | (refine vb_t rfl ?_; conv => whnf)
            | (refine vb_f rfl ?_; conv => whnf)
            | (refine vb_t (by assumption) ?_; conv => whnf)
            | (refine vb_f (by assumption) ?_; conv => whnf)
            | fail)
          exact ⟨rfl, rfl⟩
      · have q5 : ilt (Int.ofNat 0) (irem (n) (k : Int)) = false := by rw [hr0, ilt_f]; simp only [Int.ofNat_eq_natCast]; omega
        repeat' (first
          | (refine vb_t rfl ?_; conv => whnf)
          | (refine vb_f rfl ?_; conv => whnf)
          | (refine vb_t (by assumption) ?_; conv => whnf)
          | (refine vb_f (by assumption) ?_; conv => whnf)
          | (refine vpur_i (itoa_ok' hx0 (by omega) []) ?_; conv => whnf)
          | (refine vb_t (roomS_t (by simp; omega)) ?_; conv => whnf)
          | fail)
        rw [hr0]
        obtain ⟨l0, hl0⟩ : ∃ l0 : Nat, m % k = l0 := ⟨_, rfl⟩
        rw [if_neg hl, hl0] at hN
        rw [hl0] at hlk0 ⊢
        have hlk := hlk0
        have hl6 := pow_first k l0 hk
        obtain ⟨s0, hs⟩ : ∃ s0 : List UInt8, [] ++ Lib.decDigits (m / k) = s0 := ⟨_, rfl⟩
        have hs0 : s0.length + 30 * 6 ≤ 400 := by rw [← hs]; simp; omega
        refine vloop_eq2 (fr' := [(1, I k), (4, S []), (5, S s0), (6, I l0)]) (h' := []) ?_ rfl ?_
        · subst hs; rfl
        obtain ⟨T, hTe⟩ : ∃ T : List UInt8, numText n k = T := ⟨_, rfl⟩
        have hT : s0 ++ fracT k 6 l0 = T := by rw [← hTe, hN, ← hs]; simp
        rw [hTe]
        refine vloop_by (σ := { x : List UInt8 × Nat × Nat // x.1 ++ fracT k x.2.2 x.2.1 = T ∧ x.2.1 < k ∧ x.2.1 * 10 ^ x.2.2 % k = 0 ∧ x.1.length + 30 * x.2.2 ≤ 400 }) (fun x => [(1, I k), (4, S []), (5, S x.1.1), (6, I x.1.2.1)]) (fun _ => []) (fun x => x.1.2.2) ?_ ⟨(s0, l0, 6), hT, hlk, hl6, hs0⟩
        rintro ⟨⟨s, l, f⟩, g1, g2, g3, g4⟩
        simp only at g1 g2 g3 g4
        conv => whnf
        refine vb_i (fun h => ?_) (fun h => ?_) <;> conv => whnf
        · have hl0 : l ≠ 0 := by (first | omega | (simp only [ilt_t, ilt_f, ile_t, ile_f, ieq_t, ieq_f, ofn, List.length_map, Bool.not_eq_true', Bool.not_eq_false'] at *; omega))
          cases f with
          | zero => exact absurd (by simpa [Nat.mod_eq_of_lt g2] using g3) hl0
          | succ f =>
            rw [frac_succ _ _ _ hl0] at g1
            have hm : imul .i64 (l : Int) (Int.ofNat 10) = ((l * 10 : Nat) : Int) := i_mulr (by omega)
            have hx : iquo .i64 (imul .i64 (l : Int) (Int.ofNat 10)) (k : Int) = ((l * 10 / k : Nat) : Int) := by rw [hm, i_quo (by omega)]
            have hr : irem (imul .i64 (l : Int) (Int.ofNat 10)) (k : Int) = ((l * 10 % k : Nat) : Int) := by rw [hm, u_rem]
            have hd := dig_small l k g2
            have hrm : roomS (s.length + (Lib.decDigits (l * 10 / k)).length) = true := roomS_t (by omega)
            repeat' (first
              | (refine vb_t rfl ?_; conv => whnf)
              | (refine vb_f rfl ?_; conv => whnf)
              | (refine vb_t (by assumption) ?_; conv => whnf)
              | (refine vb_f (by assumption) ?_; conv => whnf)
              | (refine vpur_i (itoa_ok' hx (Nat.le_trans (Nat.div_le_self _ _) (by omega)) []) ?_; conv => whnf)
              | (refine vb_t hrm ?_; conv => whnf)
              | fail)
            refine ⟨⟨(s ++ Lib.decDigits (l * 10 / k), l * 10 % k, f), by simp only [List.append_assoc]; exact g1, Nat.mod_lt _ (by omega), pow_mod k f l g3, by simp only [List.length_append]; omega⟩, by simp only; omega, cons_eq rfl (cons_eq rfl (cons_eq rfl (cons_eq (slot_eq (I_eq hr)) rfl))), rfl, rfl, rfl⟩
        · have hl0 : l = 0 := by (first | omega | (simp only [ilt_t, ilt_f, ile_t, ile_f, ieq_t, ieq_f, ofn, List.length_map, Bool.not_eq_true', Bool.not_eq_false'] at *; omega))
          subst hl0
          rw [frac_zero, List.append_nil] at g1
          subst g1
          repeat' (first
            | (refine vb_t rfl ?_; conv => whnf)
            | (refine vb_f rfl ?_; conv => whnf)
            | (refine vb_t (by assumption) ?_; conv => whnf)
            | (refine vb_f (by assumption) ?_; conv => whnf)
            | fail)
          exact ⟨rfl, rfl⟩
  · have hN : numText n sc = [] := by unfold numText; rw [if_neg hg]
    rw [hN]
    refine pur_code (cf := cfn Tryz.f68) (by kernel_rfl) ?_
    conv => arg 3; reduce
    conv => whnf
    repeat' (first
      | (refine vb_t rfl ?_; conv => whnf)
      | (refine vb_f rfl ?_; conv => whnf)
      | (refine vb_t (by assumption) ?_; conv => whnf)
      | (refine vb_f (by assumption) ?_; conv => whnf)
      | (refine vpur_i (fixedIs_ok _) ?_; conv => whnf)
      | (refine vpur_i (isScale_ok _) ?_; conv => whnf)
      | (refine vb_i (fun h => ?_) (fun h => ?_) <;> conv => whnf)
      | fail)
    all_goals first
      | exact ⟨rfl, rfl⟩
      | (simp_all [isSc]; done)
theorem dec_big (u : Nat) (h : ¬ u < 10) : Lib.decDigits u = Lib.decDigits (u / 10) ++ [UInt8.ofNat (48 + u % 10)] := by rw [Lib.decDigits, dif_neg h]
end Go.Proofs.YtapnjabhcdlhbaaGreatDoor.Ab
namespace Go.Proofs.YtapnjabhcdlhbaaGreatDoor.Ab
open Go
set_option linter.unusedSimpArgs false
set_option maxRecDepth 100000
set_option linter.unusedVariables false
set_option maxHeartbeats 4000000
theorem isDig_of {k : Nat} (h : k < 10) : isDig (UInt8.ofNat (48 + k)) = true := by
  have : (UInt8.ofNat (48 + k)).toNat = 48 + k := by rw [UInt8.toNat_ofNat']; omega
  simp only [isDig, this, Bool.and_eq_true, decide_eq_true_eq]; omega
theorem dgt_of {k : Nat} (h : k < 10) : (dgt (UInt8.ofNat (48 + k))).toNat = k := by
  have e : (UInt8.ofNat (48 + k)).toNat = 48 + k := by rw [UInt8.toNat_ofNat']; omega
  unfold dgt
  rw [e, UInt8.toNat_ofNat']; omega
theorem dec_dig (u : Nat) : ∀ c ∈ Lib.decDigits u, isDig c = true := by
  induction u using Nat.strongRecOn with
  | _ u ih =>
    intro c hc
    by_cases h : u < 10
    · rw [Lib.decDigits_one h, List.mem_singleton] at hc
      rw [hc]; exact isDig_of h
    · rw [dec_big u h] at hc
      rcases List.mem_append.1 hc with hc | hc
      · exact ih (u / 10) (by omega) c hc
      · rw [List.mem_singleton.1 hc]; exact isDig_of (by omega)
theorem dec_val (u : Nat) : valD ((Lib.decDigits u).map dgt) = u := by
  induction u using Nat.strongRecOn with
  | _ u ih =>
    by_cases h : u < 10
    · rw [Lib.decDigits_one h]
      simp only [List.map_cons, List.map_nil, valD, List.length_nil, Nat.pow_zero, Nat.mul_one, Nat.add_zero]
      exact dgt_of h
    · rw [dec_big u h, List.map_append, valD_append, ih (u / 10) (by omega)]
      simp only [List.map_cons, List.map_nil, valD, List.length_cons, List.length_nil, Nat.pow_zero, Nat.mul_one, Nat.add_zero, Nat.zero_add, Nat.pow_one]
      rw [dgt_of (show u % 10 < 10 by omega)]
      omega
theorem dec_ne (u : Nat) : Lib.decDigits u ≠ [] := by
  by_cases h : u < 10
  · rw [Lib.decDigits_one h]; simp
  · rw [dec_big u h]; simp
theorem frac_dig (k : Nat) : ∀ (f l : Nat), ∀ c ∈ fracT k f l, isDig c = true
  | 0, l, c, h => by cases h
  | f + 1, l, c, h => by
    unfold fracT at h
    split at h
    · cases h
    · rcases List.mem_append.1 h with h | h
      · exact dec_dig _ c h
      · exact frac_dig k f _ c h
theorem frac_val (k : Nat) (hk : 0 < k) : ∀ (f l : Nat), l < k → l * 10 ^ f % k = 0 → valD ((fracT k f l).map dgt) * k = l * 10 ^ (fracT k f l).length
  | 0, l, hl, h => by
    rw [Nat.pow_zero, Nat.mul_one, Nat.mod_eq_of_lt hl] at h
    subst h
    simp [fracT, valD]
  | f + 1, l, hl, h => by
    by_cases h0 : l = 0
    · subst h0; rw [frac_zero]; simp [valD]
    · have ih := frac_val k hk f (l * 10 % k) (Nat.mod_lt _ hk) (pow_mod k f l h)
      have hd : l * 10 / k < 10 := by rw [Nat.div_lt_iff_lt_mul hk]; omega
      rw [frac_succ k f l h0, List.map_append, valD_append, List.length_append, Nat.add_mul, ih, dec_val, List.length_map]
      have h1 : (Lib.decDigits (l * 10 / k)).length = 1 := by rw [Lib.decDigits_one hd]; rfl
      rw [h1, Nat.mul_assoc, Nat.mul_comm (10 ^ _) k, ← Nat.mul_assoc, ← Nat.add_mul, Nat.pow_add, Nat.pow_one, ← Nat.mul_assoc]
      congr 1
      have := Nat.div_add_mod (l * 10) k
      rw [Nat.mul_comm] at this
      omega
theorem frac_ne {k l : Nat} (h : l ≠ 0) : fracT k 6 l ≠ [] := by
  rw [frac_succ k 5 l h]
  intro e
  exact dec_ne _ (List.append_eq_nil_iff.1 e).1
/-! What stands behind a number. -/
def stops : List UInt8 → Prop
  | [] => True
  | c :: _ => isDig c = false ∧ c ≠ 46 ∧ c ≠ 101 ∧ c ≠ 69
theorem tw_pre {p : UInt8 → Bool} : ∀ (a b : List UInt8), (∀ c ∈ a, p c = true) → (∀ c t, b = c :: t → p c = false) → (a ++ b).takeWhile p = a
  | [], b, _, h => by
    cases b with
    | nil => rfl
    | cons c t => rw [List.nil_append, List.takeWhile_cons, h c t rfl]; rfl
  | x :: a, b, ha, h => by
    rw [List.cons_append, List.takeWhile_cons, ha x (List.mem_cons_self ..), if_pos rfl, tw_pre a b (fun c hc => ha c (List.mem_cons_of_mem _ hc)) h]
theorem digs_pre {s a b : List UInt8} {i : Nat} (hs : s.drop i = a ++ b) (ha : ∀ c ∈ a, isDig c = true) (hb : ∀ c t, b = c :: t → isDig c = false) : digs s i = a := by
  unfold digs; rw [hs]; exact tw_pre a b ha hb
theorem get_drop {s a : List UInt8} {i : Nat} (h : s.drop i = a) (j : Nat) : s[i + j]? = a[j]? := by rw [← h, List.getElem?_drop]
theorem drop_add' {s a b : List UInt8} {i : Nat} (h : s.drop i = a ++ b) : s.drop (i + a.length) = b := by rw [← List.drop_drop, h, List.drop_left]
/-- The parts of a text that is a sign, digits, and digits behind a point. -/
theorem numP_of {s g w p r : List UInt8} (hs : s = g ++ (w ++ ((if p = [] then [] else 46 :: p) ++ r))) (hg : g = [] ∨ g = [45]) (hw : w ≠ []) (hwd : ∀ c ∈ w, isDig c = true) (hpd : ∀ c ∈ p, isDig c = true) (hr : stops r) :
    numP s = ⟨decide (g = [45]), w, p, [], (g ++ (w ++ (if p = [] then [] else 46 :: p))).length⟩ := by
  obtain ⟨w0, wt, rfl⟩ : ∃ c t, w = c :: t := by
    cases w with
    | nil => exact (hw rfl).elim
    | cons c t => exact ⟨c, t, rfl⟩
  have h0 := hwd w0 (List.mem_cons_self ..)
  have hw43 : w0 ≠ 43 := fun e => by rw [e] at h0; revert h0; decide
  have hw45 : w0 ≠ 45 := fun e => by rw [e] at h0; revert h0; decide
  have hA : pA s = g.length := by
    unfold pA sgnN sgn
    rcases hg with rfl | rfl
    · rw [hs]; simp [hw43, hw45]
    · rw [hs]; simp
  have hB : sgnB s 0 = decide (g = [45]) := by
    unfold sgnB
    rcases hg with rfl | rfl
    · rw [hs]; simp [hw45]
    · rw [hs]; simp
  have hd0 : s.drop (pA s) = (w0 :: wt) ++ ((if p = [] then [] else 46 :: p) ++ r) := by rw [hA, hs, List.drop_left]
  have hstop : ∀ c t, ((if p = [] then [] else 46 :: p) ++ r) = c :: t → isDig c = false := fun c t e => by
    by_cases hp : p = []
    · rw [if_pos hp, List.nil_append] at e
      rw [e] at hr; exact hr.1
    · rw [if_neg hp] at e
      cases e; decide
  have hW : digs s (pA s) = w0 :: wt := digs_pre hd0 hwd hstop
  have hWe : pW s = pA s + (w0 :: wt).length := by unfold pW; rw [← digs_len, hW]
  have hd1 := drop_add' hd0
  rw [← hWe] at hd1
  by_cases hp : p = []
  · subst hp
    rw [if_pos rfl, List.nil_append] at hd1
    have hdot : pDot s = false := by
      unfold pDot
      rw [decide_eq_false_iff_not, ← Nat.add_zero (pW s), get_drop hd1]
      cases r with
      | nil => simp
      | cons c t => simp; exact hr.2.1
    have hP : pP s = [] := by unfold pP; rw [hdot]; rfl
    have hE : pE s = pW s := by unfold pE; rw [if_pos hP]
    have hIe : pIsE s = false := by
      unfold pIsE
      rw [hE, ← Nat.add_zero (pW s), get_drop hd1]
      cases r with
      | nil => simp
      | cons c t => simp; exact ⟨hr.2.2.1, hr.2.2.2⟩
    rw [numP_n (by rw [hW]; simp) (.inl hIe), hW, hP, hB, hE, hWe, hA]
    simp
  · rw [if_neg hp] at hd1
    have hdot : pDot s = true := by
      unfold pDot
      rw [decide_eq_true_eq, ← Nat.add_zero (pW s), get_drop hd1]; rfl
    have hd2 : s.drop (pW s + 1) = p ++ r := drop_add' (a := [46]) (b := p ++ r) (by rw [hd1]; rfl)
    have hP : pP s = p := by
      unfold pP; rw [if_pos hdot]
      refine digs_pre hd2 hpd fun c t e => ?_
      rw [e] at hr; exact hr.1
    have hE : pE s = pW s + 1 + p.length := by unfold pE; rw [if_neg (by rw [hP]; exact hp), hP]
    have hd3 := drop_add' hd2
    rw [← hE] at hd3
    have hIe : pIsE s = false := by
      unfold pIsE
      rw [← Nat.add_zero (pE s), get_drop hd3]
      cases r with
      | nil => simp
      | cons c t => simp; exact ⟨hr.2.2.1, hr.2.2.2⟩
    rw [numP_n (by rw [hW]; simp) (.inl hIe), hW, hP, hB, hE, hWe, hA, if_neg hp]
    simp; omega
/-- A number's text in its parts. -/
def txtG (n : Int) : List UInt8 := if n < 0 then [45] else []
def txtW (n : Int) (sc : Nat) : List UInt8 := Lib.decDigits (n.natAbs / sc)
def txtP (n : Int) (sc : Nat) : List UInt8 := fracT sc 6 (n.natAbs % sc)
theorem txt_eq {n : Int} {sc : Nat} (hn : isPx n = true) (hsc : sc = 1 ∨ sc = 64 ∨ sc = 1000) : numText n sc = txtG n ++ (txtW n sc ++ (if txtP n sc = [] then [] else 46 :: txtP n sc)) := by
  have hs : isSc (sc : Int) := by unfold isSc; omega
  unfold numText
  rw [if_pos ⟨hn, hs⟩, Int.toNat_natCast]
  unfold txtG txtW txtP posText
  congr 2
  by_cases h0 : n.natAbs % sc = 0
  · rw [h0, frac_zero]; rfl
  · rw [if_pos (by omega), if_neg (frac_ne h0)]; rfl
theorem txtG_or (n : Int) : txtG n = [] ∨ txtG n = [45] := by unfold txtG; split <;> simp
theorem numP_txt {n : Int} {sc : Nat} (hn : isPx n = true) (hsc : sc = 1 ∨ sc = 64 ∨ sc = 1000) {r : List UInt8} (hr : stops r) : numP (numText n sc ++ r) = ⟨decide (n < 0), txtW n sc, txtP n sc, [], (numText n sc).length⟩ := by
  have h := numP_of (s := numText n sc ++ r) (g := txtG n) (w := txtW n sc) (p := txtP n sc) (r := r) (by rw [txt_eq hn hsc]; simp) (txtG_or n) (dec_ne _) (dec_dig _) (frac_dig _ _ _) hr
  rw [h, ← txt_eq hn hsc]
  congr 1
  unfold txtG
  split
  · rename_i h; simp [h]
  · rename_i h; simp [h]
theorem numText_le (n : Int) (sc : Nat) (hsc : sc = 1 ∨ sc = 64 ∨ sc = 1000) (hn : isPx n = true) : (numText n sc).length ≤ 28 := by
  have fl : ∀ (f l : Nat), l < sc → (fracT sc f l).length ≤ f := by
    intro f
    induction f with
    | zero => intro l _; exact Nat.le_refl _
    | succ f ih =>
      intro l hl
      by_cases h0 : l = 0
      · subst h0; rw [frac_zero]; exact Nat.zero_le _
      · have hd : l * 10 / sc < 10 := by rw [Nat.div_lt_iff_lt_mul (by omega)]; omega
        rw [frac_succ sc f l h0, List.length_append, Lib.decDigits_one hd]
        have := ih (l * 10 % sc) (Nat.mod_lt _ (by omega))
        simp only [List.length_singleton]; omega
  have h1 := fl 6 (n.natAbs % sc) (Nat.mod_lt _ (by omega))
  have hnn : n.natAbs ≤ 68719476736 := by
    unfold isPx at hn
    simp only [Bool.and_eq_true, decide_eq_true_eq] at hn; omega
  have h2 : (Lib.decDigits (n.natAbs / sc)).length ≤ 20 := dec_le _ (Nat.lt_of_le_of_lt (Nat.div_le_self _ _) (by omega))
  rw [txt_eq hn hsc]
  have h3 : (txtG n).length ≤ 1 := by unfold txtG; split <;> simp
  have h4 : (txtP n sc).length ≤ 6 := h1
  have h5 : (txtW n sc).length ≤ 20 := h2
  simp only [List.length_append]
  split
  · simp; omega
  · simp; omega
/-- A number's text is that number. -/
theorem numV_txt {n : Int} {sc : Nat} (hn : isPx n = true) (hsc : sc = 1 ∨ sc = 64 ∨ sc = 1000) : numV (numText n sc) sc = (n, 0) := by
  have hP := numP_txt hn hsc (r := []) trivial
  rw [List.append_nil] at hP
  have hle := numText_le n sc hsc hn
  have hpos : (numText n sc).length ≠ 0 := by
    intro e
    have h2 := List.length_eq_zero_iff.1 e
    rw [txt_eq hn hsc] at h2
    have h3 := (List.append_eq_nil_iff.1 h2).2
    exact dec_ne _ (List.append_eq_nil_iff.1 h3).1
  have hm : n.natAbs ≤ 68719476736 ∧ -68719476736 ≤ n ∧ n ≤ 68719476736 := by
    unfold isPx at hn
    simp only [Bool.and_eq_true, decide_eq_true_eq] at hn; omega
  have hsc0 : 0 < sc := by omega
  have hfin : (n.natAbs % sc) * 10 ^ 6 % sc = 0 := pow_first sc _ hsc
  have hV : rndN (valD (dgs (numP (numText n sc))) * sc) (((numP (numText n sc)).part.length : Int) - expV (numP (numText n sc)).exp) = n.natAbs := by
    rw [hP]
    show rndN (valD ((txtW n sc ++ txtP n sc).map dgt) * sc) (((txtP n sc).length : Int) - expV []) = n.natAbs
    have hx : expV [] = 0 := rfl
    rw [hx, Int.sub_zero, List.map_append, valD_append, List.length_map, Nat.add_mul]
    have hf : valD ((txtP n sc).map dgt) * sc = (n.natAbs % sc) * 10 ^ (txtP n sc).length := frac_val sc hsc0 6 _ (Nat.mod_lt _ hsc0) hfin
    have hw : valD ((txtW n sc).map dgt) = n.natAbs / sc := dec_val _
    rw [hf, hw, Nat.mul_assoc, Nat.mul_comm (10 ^ _) sc, ← Nat.mul_assoc, ← Nat.add_mul]
    have hdm : n.natAbs / sc * sc + n.natAbs % sc = n.natAbs := Nat.div_add_mod' _ _
    rw [hdm]
    generalize (txtP n sc).length = p
    rcases Nat.eq_zero_or_pos p with h | h
    · subst h; rw [rndN_neg (by omega)]; simp
    · rw [rndN_pos h]
      have hp1 : 10 ^ p = 10 * 10 ^ (p - 1) := by rw [Nat.mul_comm, ← Nat.pow_succ]; congr 1; omega
      have hpp : 0 < 10 ^ p := Nat.pow_pos (by decide)
      have hpq : 0 < 10 ^ (p - 1) := Nat.pow_pos (by decide)
      rw [Nat.mul_div_cancel _ hpp, hp1, ← Nat.mul_assoc, Nat.mul_div_cancel _ hpq]
      have : n.natAbs * 10 % 10 = 0 := by omega
      rw [this]; rfl
  unfold numV
  rw [hV]
  rw [hP]
  show (if (numText n sc).length = 0 ∨ (numText n sc).length ≠ (numText n sc).length ∨ 300 < (numText n sc).length then ((0, 21) : Int × Int) else if n.natAbs ≤ 68719476736 then (if decide (n < 0) = true then -(n.natAbs : Int) else (n.natAbs : Nat), 0) else (0, 10)) = (n, 0)
  rw [if_neg (by omega), if_pos hm.1]
  by_cases h : n < 0
  · rw [if_pos (by simpa using h)]; congr 1; omega
  · rw [if_neg (by simpa using h)]; congr 1; omega
end Go.Proofs.YtapnjabhcdlhbaaGreatDoor.Ab
namespace Go.Proofs.YtapnjabhcdlhbaaGreatDoor.Ab
open Go
set_option linter.unusedSimpArgs false
set_option maxRecDepth 100000
set_option linter.unusedVariables false
set_option maxHeartbeats 4000000
theorem frac_len (sc : Nat) : ∀ (f l : Nat), l < sc → (fracT sc f l).length ≤ 20 * f
  | 0, l, h => by simp [fracT]
  | f + 1, l, h => by
    unfold fracT
    split
    · simp
    · have h1 := frac_len sc f (l * 10 % sc) (Nat.mod_lt _ (by omega))
      have h2 := dig_small l sc h
      rw [List.length_append]
      omega
theorem numText_len (n sc : Int) : (numText n sc).length ≤ 200 := by
  unfold numText
  split
  · rename_i h
    obtain ⟨h1, h2⟩ := h
    have hb : -68719476736 ≤ n ∧ n ≤ 68719476736 := by simpa [isPx] using h1
    have hk : 0 < sc.toNat := by unfold isSc at h2; omega
    unfold posText
    have h3 := frac_len sc.toNat 6 (n.natAbs % sc.toNat) (Nat.mod_lt _ hk)
    have h4 := dec_le (n.natAbs / sc.toNat) (Nat.lt_of_le_of_lt (Nat.div_le_self _ _) (by omega))
    simp only [List.length_append]
    (repeat' split) <;> simp only [List.length_cons, List.length_nil] <;> omega
  · simp
/-- A size's text. -/
def valText (k n : Int) : List UInt8 := if goodL k n 63 = true then (if k = 2 then numText n 64 ++ [112, 120] else if k = 3 then numText n 1000 ++ [37] else if k = 6 then numText n 1000 ++ [102, 114] else keyText k) else []
theorem vtext_ok (k n : Int) : Pur F0 20 [.agg [I k, I n]] [] .no (.ret (S (valText k n))) .no := by
  refine pur_code (cf := cfn Tryz.f20) (by kernel_rfl) ?_
  conv => arg 3; reduce
  conv => whnf
  have l1 := numText_len n 64
  have l2 := numText_len n 1000
  have r1 : roomS ((numText n (Int.ofNat 64)).length + ([112, 120] : List UInt8).length) = true := roomS_t (Nat.le_trans (Nat.add_le_add_right l1 2) (by decide))
  have r2 : roomS ((numText n (Int.ofNat 1000)).length + ([37] : List UInt8).length) = true := roomS_t (Nat.le_trans (Nat.add_le_add_right l2 1) (by decide))
  have r3 : roomS ((numText n (Int.ofNat 1000)).length + ([102, 114] : List UInt8).length) = true := roomS_t (Nat.le_trans (Nat.add_le_add_right l2 2) (by decide))
  repeat' (first
    | (refine vb_t rfl ?_; conv => whnf)
    | (refine vb_f rfl ?_; conv => whnf)
    | (refine vb_t (by assumption) ?_; conv => whnf)
    | (refine vb_f (by assumption) ?_; conv => whnf)
    | (refine vpur_i (good_ok _ _ _) ?_; conv => whnf)
    | (refine vpur_i (ndText_ok _ _) ?_; conv => whnf)
    | (refine vpur_i (keyText_ok _) ?_; conv => whnf)
    | (refine vb_i (fun h => ?_) (fun h => ?_) <;> conv => whnf)
    | fail)
  all_goals refine ⟨congrArg CR.ret (S_eq ?_), rfl⟩
  all_goals clear r1 r2 r3 l1 l2
  all_goals simp only [Bool.not_eq_true', Bool.not_eq_false', ieq_t, ieq_f, lit2, lit3, lit6, lit63, lit64, litK] at *
  all_goals (unfold valText; simp_all)
theorem good_kind (k n a : Int) (h : goodL k n a = true) : 1 ≤ k ∧ k ≤ 7 := by
  unfold goodL keyBit at h
  have h0 := has0 a
  (repeat' split at h) <;> first | omega | (simp [h0] at h)
end Go.Proofs.YtapnjabhcdlhbaaGreatDoor.Ab

