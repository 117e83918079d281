/- Some texts as one, one behind the other; what is not leaned on is left out. -/
import Derived.Test.YtjeblkicgmmhiaaGreatDoorQ2
import Derived.Test.YtjeblkicgmmhiaaGreatDoorC00q
namespace Go.Proofs.YtjeblkicgmmhiaaGreatDoor.Ab
open Go
set_option linter.unusedSimpArgs false
set_option maxRecDepth 100000
set_option linter.unusedVariables false
set_option maxHeartbeats 4000000
structure Trk where
  ak : Int
  an : Int
  bk : Int
  bn : Int
  fit : Bool
  lk : Int
  ln : Int
  deriving Inhabited
def trkRow (t : Trk) : List DV := [.int .i64 t.ak, .int .i64 t.an, .int .i64 t.bk, .int .i64 t.bn, .bool t.fit, .int .i64 t.lk, .int .i64 t.ln]
def trkL (t : Trk) : List AV := [I t.ak, I t.an, I t.bk, I t.bn, B t.fit, I t.lk, I t.ln]
def trkA (t : Trk) : AV := .agg (trkL t)
theorem auto_ok : Pur F0 117 [] [] .no (.ret (.agg [I 1, I 0])) .no := by
  refine pur_code code117_ok ?_
  conv => whnf
  repeat' ((first | refine vb_t rfl ?_ | refine vb_f rfl ?_ | refine vb_t (by assumption) ?_ | refine vb_f (by assumption) ?_ | refine vor_l ?_ | fail) <;> conv => whnf)
  exact ⟨rfl, rfl⟩
theorem fit_ok (k n : Int) : Pur F0 80 [.agg [I k, I n]] [] .no (.ret (.agg [I 1, I 0, I 5, I 0, B true, I k, I n])) .no := by
  refine pur_code code80_ok ?_
  conv => whnf
  repeat' ((first | refine vb_t rfl ?_ | refine vb_f rfl ?_ | refine vb_t (by assumption) ?_ | refine vb_f (by assumption) ?_ | refine vpur_i auto_ok ?_ | refine vor_l ?_ | fail) <;> conv => whnf)
  exact ⟨rfl, rfl⟩
end Go.Proofs.YtjeblkicgmmhiaaGreatDoor.Ab
namespace Go.Proofs.YtjeblkicgmmhiaaGreatDoor.Ab
open Go
set_option linter.unusedSimpArgs false
set_option maxRecDepth 100000
set_option linter.unusedVariables false
set_option maxHeartbeats 4000000
theorem rdigit_ok (c : UInt8) : Pur F0 124 [.d (.int .u8 c.toNat)] [] .no (.ret (B (isDig c))) .no := by
  refine pur_code code124_ok ?_
  conv => whnf
  repeat' ((first | refine vb_t rfl ?_ | refine vb_f rfl ?_ | refine vb_t (by assumption) ?_ | refine vb_f (by assumption) ?_ | refine vor_l ?_ | refine vb_i (fun h => ?_) (fun h => ?_) | fail) <;> conv => whnf)
  all_goals refine ⟨congrArg CR.ret (congrArg AV.d (congrArg DV.bool ?_)), rfl⟩
  all_goals simp only [ile_d, ofn, decide_eq_true_eq, decide_eq_false_iff_not] at *
  all_goals (unfold isDig; rw [Bool.eq_iff_iff]; simp; omega)
theorem iaddN {a b : Nat} (h : a + b ≤ 9223372036854775807) : iadd .i64 (a : Int) (b : Int) = ((a + b : Nat) : Int) := by rw [iadd64 (by omega) (by omega)]; omega
theorem rdigits_ok (s : List UInt8) (i : Nat) (hi : i ≤ 1000000) (hs : s.length ≤ 1000000) : Pur F0 156 [S s, I (i : Int)] [] .no (.ret (I (digN s i : Nat))) .no := by
  refine pur_code code156_ok ?_
  conv => whnf
  refine vloop_eq2 (fr' := [(0, S s), (1, I (i : Int)), (4, I 0), (5, I ((0 : Nat) : Int))]) rfl rfl ?_
  refine vloop_by (σ := { k : Nat // i + k ≤ i + s.length ∧ k + digN s (i + k) = digN s i }) (fun k => [(0, S s), (1, I (i : Int)), (4, I 0), (5, I (k.1 : Int))]) (fun _ => []) (fun k => s.length - k.1) ?_ ⟨0, by omega, by rw [Nat.zero_add, Nat.add_zero]⟩
  rintro ⟨k, hk, hd⟩
  have e1 : iadd .i64 (i : Int) (k : Int) = ((i + k : Nat) : Int) := iaddN (by omega)
  conv => whnf
  by_cases hlt : i + k < s.length
  · have q1 : ilt (iadd .i64 (i : Int) (k : Int)) (s.length : Int) = true := by rw [e1, ilt_t]; omega
    obtain ⟨c, hc⟩ : ∃ c, s[i + k]? = some c := ⟨s[i + k], List.getElem?_eq_getElem hlt⟩
    have hg : iget s (iadd .i64 (i : Int) (k : Int)) = some c := by rw [e1]; exact iget_t hc
    by_cases hdig : isDig c = true
    · repeat' ((first | refine vb_t rfl ?_ | refine vb_f rfl ?_ | refine vb_t (by assumption) ?_ | refine vb_f (by assumption) ?_ | refine vo_i hg ?_ | refine vpur_i (rdigit_ok c) ?_ | refine vor_l ?_ | fail) <;> conv => whnf)
      have h1 := digN_succ hc hdig
      refine ⟨⟨k + 1, by omega, by show k + 1 + digN s (i + k + 1) = digN s i; omega⟩, by simp only; omega, cons_eq rfl (cons_eq rfl (cons_eq rfl (cons_eq (slot_eq (I_eq (iadd_one (i := k) (by omega)))) rfl))), rfl, rfl, rfl⟩
    · have hdig : isDig c = false := by simpa using hdig
      repeat' ((first | refine vb_t rfl ?_ | refine vb_f rfl ?_ | refine vb_t (by assumption) ?_ | refine vb_f (by assumption) ?_ | refine vo_i hg ?_ | refine vpur_i (rdigit_ok c) ?_ | refine vor_l ?_ | fail) <;> conv => whnf)
      rw [digN_zero hc hdig] at hd
      exact ⟨congrArg CR.ret (I_eq (by show (k : Int) = _; rw [← hd]; rfl)), by trivial⟩
  · have q1 : ilt (iadd .i64 (i : Int) (k : Int)) (s.length : Int) = false := by rw [e1, ilt_f]; omega
    repeat' ((first | refine vb_t rfl ?_ | refine vb_f rfl ?_ | refine vb_t (by assumption) ?_ | refine vb_f (by assumption) ?_ | refine vor_l ?_ | fail) <;> conv => whnf)
    rw [digN_end (by omega)] at hd
    exact ⟨congrArg CR.ret (I_eq (by show (k : Int) = _; rw [← hd]; rfl)), by trivial⟩
def sgn1 (s : List UInt8) (i : Nat) : Nat := if sgn s i = true then 1 else 0
theorem rsign_ok (s : List UInt8) (i : Nat) : Pur F0 155 [S s, I (i : Int)] [] .no (.ret (I (sgn1 s i : Nat))) .no := by
  by_cases hi : i < s.length
  · obtain ⟨c, hc⟩ : ∃ c, s[i]? = some c := ⟨s[i], List.getElem?_eq_getElem hi⟩
    have hg : iget s (i : Int) = some c := iget_t hc
    have hlt : ilt (i : Int) (s.length : Int) = true := by rw [ilt_t]; omega
    refine pur_code code155_ok ?_
    conv => whnf
    by_cases h1 : c = 43
    · have q1 : ieq (c.toNat : Int) (Int.ofNat 43) = true := ieq_c 43 rfl h1
      repeat' ((first | refine vb_t rfl ?_ | refine vb_f rfl ?_ | refine vb_t (by assumption) ?_ | refine vb_f (by assumption) ?_ | refine vo_i hg ?_ | refine vor_l ?_ | fail) <;> conv => whnf)
      refine ⟨congrArg CR.ret (I_eq ?_), by trivial⟩
      unfold sgn1 sgn; rw [hc, h1]; rfl
    · have q1 : ieq (c.toNat : Int) (Int.ofNat 43) = false := ieq_nc 43 rfl h1
      by_cases h2 : c = 45
      · have q2 : ieq (c.toNat : Int) (Int.ofNat 45) = true := ieq_c 45 rfl h2
        repeat' ((first | refine vb_t rfl ?_ | refine vb_f rfl ?_ | refine vb_t (by assumption) ?_ | refine vb_f (by assumption) ?_ | refine vo_i hg ?_ | refine vor_l ?_ | fail) <;> conv => whnf)
        refine ⟨congrArg CR.ret (I_eq ?_), by trivial⟩
        unfold sgn1 sgn; rw [hc, h2]; rfl
      · have q2 : ieq (c.toNat : Int) (Int.ofNat 45) = false := ieq_nc 45 rfl h2
        repeat' ((first | refine vb_t rfl ?_ | refine vb_f rfl ?_ | refine vb_t (by assumption) ?_ | refine vb_f (by assumption) ?_ | refine vo_i hg ?_ | refine vor_l ?_ | fail) <;> conv => whnf)
        refine ⟨congrArg CR.ret (I_eq ?_), by trivial⟩
        unfold sgn1 sgn; rw [hc, if_neg]
        · rfl
        · simp [h1, h2]
  · have hc : s[i]? = none := List.getElem?_eq_none (by omega)
    have hlt : ilt (i : Int) (s.length : Int) = false := by rw [ilt_f]; omega
    refine pur_code code155_ok ?_
    conv => whnf
    repeat' ((first | refine vb_t rfl ?_ | refine vb_f rfl ?_ | refine vb_t (by assumption) ?_ | refine vb_f (by assumption) ?_ | refine vor_l ?_ | fail) <;> conv => whnf)
    refine ⟨congrArg CR.ret (I_eq ?_), by trivial⟩
    unfold sgn1 sgn; rw [hc]; rfl
theorem rexp_ok (s : List UInt8) (a : Nat) (ha : 0 < a) (hal : a < s.length) (hs : s.length ≤ 1000000) (hd : ∀ j c, a + sgn1 s a ≤ j → s[j]? = some c → isDig c = true) :
    Pur F0 127 [S s, I (a : Int)] [] .no (.ret (I (expV (s.drop a)))) .no := by
  have q0 : ieq (a : Int) (Int.ofNat 0) = false := by rw [ieq_f, ofn]; omega
  have hs1 : sgn1 s a ≤ 1 := by unfold sgn1; split <;> omega
  have e0 : iadd .i64 (a : Int) (sgn1 s a : Int) = ((a + sgn1 s a : Nat) : Int) := iaddN (by omega)
  obtain ⟨c0, hc0⟩ : ∃ c, s[a]? = some c := ⟨s[a], List.getElem?_eq_getElem hal⟩
  have hg0 : iget s (a : Int) = some c0 := iget_t hc0
  have hstart : expD ((s.drop a).take (sgn1 s a)) = 0 := by
    unfold sgn1
    split
    · rename_i h
      rw [List.drop_eq_getElem_cons hal]
      have h2 : s[a] = c0 := (List.getElem?_eq_some_iff.1 hc0).2
      rw [h2, List.take_succ_cons, List.take_zero]
      unfold sgn at h
      rw [hc0] at h
      have h3 : c0 = 43 ∨ c0 = 45 := by simpa using h
      rcases h3 with rfl | rfl <;> rfl
    · rfl
  refine pur_code code127_ok ?_
  conv => whnf
  repeat' ((first | refine vb_t rfl ?_ | refine vb_f rfl ?_ | refine vb_t (by assumption) ?_ | refine vb_f (by assumption) ?_ | refine vpur_i (rsign_ok s a) ?_ | refine vor_l ?_ | fail) <;> conv => whnf)
  refine vloop_eq2 (fr' := [(0, S s), (1, I (a : Int)), (4, I (Int.ofNat 0)), (5, I ((expD ((s.drop a).take (sgn1 s a)) : Nat) : Int)), (6, I ((a + sgn1 s a : Nat) : Int))]) (cons_eq rfl (cons_eq rfl (cons_eq rfl (cons_eq (slot_eq (I_eq (by rw [hstart]; rfl))) (cons_eq (slot_eq (I_eq e0)) rfl))))) rfl ?_
  refine vloop_by (σ := { k : Nat // sgn1 s a ≤ k ∧ a + k ≤ s.length + 1 }) (fun k => [(0, S s), (1, I (a : Int)), (4, I (Int.ofNat 0)), (5, I ((expD ((s.drop a).take k.1) : Nat) : Int)), (6, I ((a + k.1 : Nat) : Int))]) (fun _ => []) (fun k => s.length - (a + k.1)) ?_ ⟨sgn1 s a, Nat.le_refl _, by omega⟩
  rintro ⟨k, hk, hk2⟩
  conv => whnf
  refine vb_i (fun h => ?_) (fun h => ?_) <;> conv => whnf
  · have hlt : a + k < s.length := by (first | omega | (simp only [ilt_t, ilt_f, ile_t, ile_f, ieq_t, ieq_f, ofn, List.length_map, Bool.not_eq_true', Bool.not_eq_false'] at *; omega))
    obtain ⟨c, hc⟩ : ∃ c, s[a + k]? = some c := ⟨s[a + k], List.getElem?_eq_getElem hlt⟩
    have hg : iget s ((a + k : Nat) : Int) = some c := iget_t hc
    have hdc := hd (a + k) c (by omega) hc
    have hdc2 := hdc
    simp only [isDig, Bool.and_eq_true, decide_eq_true_eq] at hdc2
    have hle := expD_le ((s.drop a).take k)
    have hnext : expD ((s.drop a).take (k + 1)) = expS (expD ((s.drop a).take k)) c := by
      have : (s.drop a)[k]? = some c := by rw [List.getElem?_drop]; exact hc
      unfold expD
      rw [List.take_add_one, this, List.foldl_append]; rfl
    obtain ⟨n, hn⟩ : ∃ n, expD ((s.drop a).take k) = n := ⟨_, rfl⟩
    rw [hn] at hle hnext
    repeat' ((first | refine vb_t rfl ?_ | refine vb_f rfl ?_ | refine vb_t (by assumption) ?_ | refine vb_f (by assumption) ?_ | refine vo_i hg ?_ | refine vor_l ?_ | fail) <;> conv => whnf)
    refine ⟨⟨k + 1, by omega, by omega⟩, by simp only; omega, cons_eq rfl (cons_eq rfl (cons_eq rfl (cons_eq (slot_eq (I_eq ?_)) (cons_eq (slot_eq (I_eq (iadd_one (i := a + k) (by omega)))) rfl)))), rfl, rfl, rfl⟩
    show imin (Int.ofNat 1000) (iadd .i64 (imul .i64 (Int.ofNat 10) ((expD ((s.drop a).take k) : Nat) : Int)) (icast .i64 (isub .u8 (c.toNat : Int) (Int.ofNat 48)))) = ((expD ((s.drop a).take (k + 1)) : Nat) : Int)
    rw [hn, hnext, isub_dig hdc, ofn, ofn, imul64 (by omega) (by omega), icast64 (by omega) (by omega), iadd64 (by omega) (by omega), imin_d]
    unfold expS; rw [if_pos hdc]
    split <;> omega
  · have hk3 : s.length ≤ a + k := by (first | omega | (simp only [ilt_t, ilt_f, ile_t, ile_f, ieq_t, ieq_f, ofn, List.length_map, Bool.not_eq_true', Bool.not_eq_false'] at *; omega))
    have hT : (s.drop a).take k = s.drop a := List.take_of_length_le (by rw [List.length_drop]; omega)
    have hle := expD_le (s.drop a)
    have h0 : (s.drop a)[0]? = some c0 := by rw [List.getElem?_drop]; exact hc0
    by_cases h45 : c0 = 45
    · have q5 : ieq (c0.toNat : Int) (Int.ofNat 45) = true := ieq_c 45 rfl h45
      repeat' ((first | refine vb_t rfl ?_ | refine vb_f rfl ?_ | refine vb_t (by assumption) ?_ | refine vb_f (by assumption) ?_ | refine vo_i hg0 ?_ | refine vor_l ?_ | fail) <;> conv => whnf)
      refine ⟨congrArg CR.ret (I_eq ?_), by trivial⟩
      show isub .i64 (Int.ofNat 0) ((expD ((s.drop a).take k) : Nat) : Int) = _
      unfold expV
      rw [hT, h0, h45, if_pos rfl, ofn, isub64 (by omega) (by omega)]; omega
    · have q5 : ieq (c0.toNat : Int) (Int.ofNat 45) = false := ieq_nc 45 rfl h45
      repeat' ((first | refine vb_t rfl ?_ | refine vb_f rfl ?_ | refine vb_t (by assumption) ?_ | refine vb_f (by assumption) ?_ | refine vo_i hg0 ?_ | refine vor_l ?_ | fail) <;> conv => whnf)
      refine ⟨congrArg CR.ret (I_eq ?_), by trivial⟩
      show ((expD ((s.drop a).take k) : Nat) : Int) = _
      unfold expV
      rw [hT, h0, if_neg (fun h => h45 (Option.some.inj h))]
theorem rexp0_ok (s : List UInt8) : Pur F0 127 [S s, I (Int.ofNat 0)] [] .no (.ret (I 0)) .no := by
  refine pur_code code127_ok ?_
  conv => whnf
  have q0 : ieq (Int.ofNat 0) (Int.ofNat 0) = true := by rw [ieq_t]
  repeat' ((first | refine vb_t rfl ?_ | refine vb_f rfl ?_ | refine vb_t (by assumption) ?_ | refine vb_f (by assumption) ?_ | refine vor_l ?_ | fail) <;> conv => whnf)
  exact ⟨by trivial, by trivial⟩
end Go.Proofs.YtjeblkicgmmhiaaGreatDoor.Ab
namespace Go.Proofs.YtjeblkicgmmhiaaGreatDoor.Ab
open Go
set_option linter.unusedSimpArgs false
set_option maxRecDepth 100000
set_option linter.unusedVariables false
set_option maxHeartbeats 4000000
/-- Digits, the last one first. -/
def valR : List Nat → Nat
  | [] => 0
  | c :: l => c + 10 * valR l
def digR (l : List Nat) : Prop := ∀ c ∈ l, c ≤ 9
theorem valR_append : ∀ a b : List Nat, valR (a ++ b) = valR a + 10 ^ a.length * valR b
  | [], b => by simp [valR]
  | c :: a, b => by
    have h := valR_append a b
    simp only [List.cons_append, valR, h, List.length_cons, Nat.pow_succ]
    rw [Nat.mul_add, ← Nat.mul_assoc, Nat.mul_comm 10 (10 ^ a.length)]
    omega
theorem valR_lt : ∀ l : List Nat, digR l → valR l < 10 ^ l.length
  | [], _ => by simp [valR]
  | c :: l, h => by
    have h1 := valR_lt l fun x hx => h x (List.mem_cons_of_mem _ hx)
    have h2 := h c (List.mem_cons_self ..)
    simp only [valR, List.length_cons, Nat.pow_succ]
    omega
theorem valR_rev : ∀ l : List UInt8, valR (l.map UInt8.toNat).reverse = valD l
  | [] => rfl
  | c :: l => by
    have h := valR_rev l
    rw [List.map_cons, List.reverse_cons, valR_append, h]
    simp only [valR, valD, List.length_reverse, List.length_map, Nat.mul_zero, Nat.add_zero]
    rw [Nat.mul_comm]; omega
theorem valR_drop : ∀ (l : List Nat) (k : Nat), digR l → valR (l.drop k) = valR l / 10 ^ k
  | l, 0, h => by simp
  | [], k + 1, h => by simp [valR]
  | c :: l, k + 1, h => by
    have h1 := valR_drop l k fun x hx => h x (List.mem_cons_of_mem _ hx)
    have h2 := h c (List.mem_cons_self ..)
    rw [List.drop_succ_cons, h1, valR, Nat.pow_succ, Nat.mul_comm (10 ^ k) 10, ← Nat.div_div_eq_div_mul]
    congr 1; omega
theorem valR_get {l : List Nat} {k c : Nat} (h : digR l) (hk : l[k]? = some c) : valR l / 10 ^ k % 10 = c := by
  rw [← valR_drop l k h]
  have hl := (List.getElem?_eq_some_iff.1 hk).1
  rw [List.drop_eq_getElem_cons hl, (List.getElem?_eq_some_iff.1 hk).2]
  have := h c (List.mem_of_getElem? hk)
  simp only [valR]; omega
theorem valR_over {l : List Nat} {k : Nat} (h : digR l) (hk : l.length ≤ k) : valR l / 10 ^ k = 0 :=
  Nat.div_eq_of_lt (Nat.lt_of_lt_of_le (valR_lt l h) (Nat.pow_le_pow_right (by decide) hk))
theorem valR_snoc (l : List Nat) (c : Nat) : valR (l ++ [c]) = valR l + 10 ^ l.length * c := by rw [valR_append]; simp [valR]
/-- What rounding comes to, kept small. -/
def capM (x : Nat) : Nat := min 68719476737 x
def rndM (X : Nat) (behind : Int) : Nat :=
  if behind ≤ 0 then capM (X * 10 ^ (-behind).toNat)
  else capM (X / 10 ^ behind.toNat) + (if 5 ≤ X / 10 ^ (behind.toNat - 1) % 10 then 1 else 0)
theorem capM_step (x c : Nat) : min 68719476737 (10 * capM x + c) = capM (10 * x + c) := by unfold capM; omega
theorem rndM_le {X : Nat} {b : Int} : (rndM X b ≤ 68719476736) = (rndN X b ≤ 68719476736) := by
  unfold rndM rndN capM
  split
  · generalize X * 10 ^ (-b).toNat = y; rw [eq_iff_iff]; omega
  · generalize X / 10 ^ b.toNat = y
    generalize (if 5 ≤ X / 10 ^ (b.toNat - 1) % 10 then 1 else 0) = z
    rw [eq_iff_iff]; omega
theorem rndM_eq {X : Nat} {b : Int} (h : rndN X b ≤ 68719476736) : rndM X b = rndN X b := by
  unfold rndM rndN capM at *
  by_cases hb : b ≤ 0
  · simp only [if_pos hb] at *
    generalize X * 10 ^ (-b).toNat = y at *; omega
  · simp only [if_neg hb] at *
    generalize X / 10 ^ b.toNat = y at *
    generalize (if 5 ≤ X / 10 ^ (b.toNat - 1) % 10 then 1 else 0) = z at *
    omega
/-! A list of numbers, and one that is built from nothing. -/
def natRow (n : Nat) : List DV := [.int .i64 (n : Int)]
def natsV : Option (Nat × List Nat) → AV
  | none => .d .nilsl
  | some (g, l) => .osl 0 g 0 l.length
def natsH (o : Own) (ty : Nat) : Option (Nat × List Nat) → Heap
  | none => []
  | some (g, l) => [⟨o, ty, .arr true g 1 (l.map natRow)⟩]
def nats : Option (Nat × List Nat) → List Nat
  | none => []
  | some (_, l) => l
end Go.Proofs.YtjeblkicgmmhiaaGreatDoor.Ab
namespace Go.Proofs.YtjeblkicgmmhiaaGreatDoor.Ab
open Go
set_option linter.unusedSimpArgs false
set_option maxRecDepth 100000
set_option linter.unusedVariables false
set_option maxHeartbeats 4000000
theorem sgnN_1 (s : List UInt8) (i : Nat) : i + sgn1 s i = sgnN s i := by unfold sgnN sgn1; split <;> rfl
theorem rsign' (s : List UInt8) {x : Int} {i n : Nat} (hx : x = (i : Int)) (hn : sgn1 s i = n) : Pur F0 155 [S s, I x] [] .no (.ret (I (n : Nat))) .no := by subst hx hn; exact rsign_ok s i
theorem rdigits' (s : List UInt8) {x : Int} {i : Nat} (hx : x = (i : Int)) (hi : i ≤ 1000000) (hs : s.length ≤ 1000000) : Pur F0 156 [S s, I x] [] .no (.ret (I (digN s i : Nat))) .no := by subst hx; exact rdigits_ok s i hi hs
/-- Where the exponent stands; 0: there is none. -/
def rpX (s : List UInt8) : Nat := if pIsE s = true ∧ digs s (pX s) ≠ [] then pE s + 1 else 0
def rpT (s : List UInt8) : List AV := if digs s (pA s) = [] ∧ pP s = [] then [I 0, I 0, I 0, I 0, I 0] else [I (pA s : Int), I (digN s (pA s) : Int), I ((pP s).length : Int), I (rpX s : Int), I ((numP s).stop : Int)]
theorem five_eq {a b c d e a' b' c' d' e' : Int} (h1 : a = a') (h2 : b = b') (h3 : c = c') (h4 : d = d') (h5 : e = e') : CR.ret (.tup [I a, I b, I c, I d, I e]) = CR.ret (.tup [I a', I b', I c', I d', I e']) := by rw [h1, h2, h3, h4, h5]
theorem pP_le (s : List UInt8) : (pP s).length ≤ s.length := by
  unfold pP; split
  · exact digs_le2 _ _
  · exact Nat.zero_le _
theorem rparts_ok (s : List UInt8) (hs : s.length ≤ 100000) : Pur F0 123 [S s] [] .no (.ret (.tup (rpT s))) .no := by
  have hA : sgn1 s 0 = pA s := by rw [← Nat.zero_add (sgn1 s 0), sgnN_1]; rfl
  have a1 : pA s ≤ s.length := by
    unfold pA sgnN sgn
    cases s with
    | nil => simp
    | cons => split <;> simp
  have a2 : pW s ≤ s.length := digN_le s _ a1
  have hs : s.length ≤ 1000000 := by omega
  have e1 : iadd .i64 (pA s : Int) (digN s (pA s) : Int) = ((pW s : Nat) : Int) := iaddN (by unfold pW at a2; omega)
  refine pur_code code123_ok ?_
  conv => whnf
  repeat' ((first | refine vb_t rfl ?_ | refine vb_f rfl ?_ | refine vb_t (by assumption) ?_ | refine vb_f (by assumption) ?_ | refine vpur_i (rsign' s (i := 0) rfl hA) ?_ | refine vpur_i (rdigits_ok s (pA s) (by omega) hs) ?_ | refine vor_l ?_ | fail) <;> conv => whnf)
  by_cases hd : pDot s = true
  · have hc : s[pW s]? = some 46 := by simpa [pDot] using hd
    have hl : pW s < s.length := (List.getElem?_eq_some_iff.1 hc).1
    have hg : iget s (iadd .i64 (pA s : Int) (digN s (pA s) : Int)) = some 46 := by rw [e1]; exact iget_t hc
    have hlt : ilt (iadd .i64 (pA s : Int) (digN s (pA s) : Int)) (s.length : Int) = true := by rw [e1, ilt_t]; omega
    have he : ieq (((46 : UInt8).toNat : Nat) : Int) (Int.ofNat 46) = true := by rw [ieq_t]; rfl
    have hP : pP s = digs s (pW s + 1) := by unfold pP; rw [if_pos hd]
    have hPN : (pP s).length = digN s (pW s + 1) := by rw [hP]; rfl
    have hD : digN s (pW s + 1) ≤ s.length := by have := digs_le2 s (pW s + 1); rw [digs_len] at this; exact this
    have e2 : iadd .i64 (iadd .i64 (pA s : Int) (digN s (pA s) : Int)) (Int.ofNat 1) = ((pW s + 1 : Nat) : Int) := by rw [e1]; exact iadd_one (by omega)
    have hp : (digN s (pW s + 1) : Int) = ((pP s).length : Int) := by rw [hPN]
    by_cases hn : digs s (pW s + 1) = []
    · have hn0 : digN s (pW s + 1) = 0 := by rw [← digs_len, hn]; rfl
      have q2 : ilt (Int.ofNat 0) (digN s (pW s + 1) : Int) = false := by rw [ilt_f, hn0]; decide
      have hE : pE s = pW s := by unfold pE; rw [if_pos (hP.trans hn)]
      have hr : iadd .i64 (pA s : Int) (digN s (pA s) : Int) = ((pE s : Nat) : Int) := by rw [e1, hE]
      repeat' ((first | refine vb_t rfl ?_ | refine vb_f rfl ?_ | refine vb_t (by assumption) ?_ | refine vb_f (by assumption) ?_ | refine vo_i hg ?_ | refine vpur_i (rdigits' s e2 (by omega) hs) ?_ | refine vor_l ?_ | fail) <;> conv => whnf)
      by_cases hb : digs s (pA s) = [] ∧ pP s = []
      · have hw0 : digN s (pA s) = 0 := by rw [← digs_len, hb.1]; rfl
        have hp0 : (pP s).length = 0 := by rw [hb.2]; rfl
        have eq1 : iadd .i64 (digN s (pA s) : Int) ((digN s (pW s + 1) : Int)) = ((0 : Nat) : Int) := by rw [hp, hw0, hp0, iaddN (by decide)]
        have q1 : ieq (iadd .i64 (digN s (pA s) : Int) ((digN s (pW s + 1) : Int))) (Int.ofNat 0) = true := by rw [ieq_t, eq1]; rfl
        have hT : rpT s = [I 0, I 0, I 0, I 0, I 0] := by unfold rpT; rw [if_pos hb]
        rw [hT]
        repeat' ((first | refine vb_t rfl ?_ | refine vb_f rfl ?_ | refine vb_t (by assumption) ?_ | refine vb_f (by assumption) ?_ | refine vor_l ?_ | fail) <;> conv => whnf)
        exact ⟨rfl, rfl⟩
      have hT : rpT s = [I (pA s : Int), I (digN s (pA s) : Int), I ((pP s).length : Int), I (rpX s : Int), I ((numP s).stop : Int)] := by unfold rpT; rw [if_neg hb]
      have hWl : digN s (pA s) ≤ s.length := by have := digs_le2 s (pA s); rw [digs_len] at this; exact this
      have hPl := pP_le s
      have eq1 : iadd .i64 (digN s (pA s) : Int) ((digN s (pW s + 1) : Int)) = ((digN s (pA s) + (pP s).length : Nat) : Int) := by rw [hp, iaddN (by omega)]
      have q1 : ieq (iadd .i64 (digN s (pA s) : Int) ((digN s (pW s + 1) : Int))) (Int.ofNat 0) = false := by
        rw [ieq_f, eq1, ofn]
        intro h
        have h0 : digN s (pA s) = 0 ∧ (pP s).length = 0 := by omega
        exact hb ⟨List.length_eq_zero_iff.1 (by rw [digs_len]; exact h0.1), List.length_eq_zero_iff.1 h0.2⟩
      rw [hT]
      by_cases hx : pE s < s.length
      · obtain ⟨c, hce⟩ : ∃ c, s[pE s]? = some c := ⟨s[pE s], List.getElem?_eq_getElem hx⟩
        have hlx : ilt (iadd .i64 (pA s : Int) (digN s (pA s) : Int)) (s.length : Int) = true := by rw [hr, ilt_t]; omega
        have hgx : iget s (iadd .i64 (pA s : Int) (digN s (pA s) : Int)) = some c := by rw [hr]; exact iget_t hce
        by_cases hE1 : c = 101 ∨ c = 69
        · have h1 : pIsE s = true := by unfold pIsE; rw [hce]; rcases hE1 with rfl | rfl <;> rfl
          have hi1 : iadd .i64 (iadd .i64 (pA s : Int) (digN s (pA s) : Int)) (Int.ofNat 1) = ((pE s + 1 : Nat) : Int) := by rw [hr]; exact iadd_one (by omega)
          have hs1 : sgn1 s (pE s + 1) ≤ 1 := by unfold sgn1; split <;> omega
          have hi2 : iadd .i64 (iadd .i64 (iadd .i64 (pA s : Int) (digN s (pA s) : Int)) (Int.ofNat 1)) (sgn1 s (pE s + 1) : Int) = ((pX s : Nat) : Int) := by rw [hi1, iaddN (by omega)]; unfold pX; rw [← sgnN_1]
          have hX : pX s ≤ s.length + 1 := by unfold pX; rw [← sgnN_1]; omega
          have hN : digN s (pX s) ≤ s.length := by have := digs_le2 s (pX s); rw [digs_len] at this; exact this
          have t1 : ieq (c.toNat : Int) (Int.ofNat 101) = true ∨ (ieq (c.toNat : Int) (Int.ofNat 101) = false ∧ ieq (c.toNat : Int) (Int.ofNat 69) = true) := by
            rcases hE1 with rfl | rfl
            · exact .inl (ieq_c (c := 101) (k := 101) 101 rfl rfl)
            · exact .inr ⟨ieq_nc (c := 69) (k := 101) 101 rfl (by decide), ieq_c (c := 69) (k := 69) 69 rfl rfl⟩
          by_cases hn : digs s (pX s) = []
          · have hn0 : digN s (pX s) = 0 := by rw [← digs_len, hn]; rfl
            have q3 : ilt (Int.ofNat 0) (digN s (pX s) : Int) = false := by rw [ilt_f, hn0]; decide
            have hfin := numP_n hb (.inr hn)
            have hXe : rpX s = 0 := by unfold rpX; rw [if_neg (fun h => h.2 hn)]
            rcases t1 with t1 | ⟨t1, t2⟩
            all_goals
              repeat' ((first | refine vb_t rfl ?_ | refine vb_f rfl ?_ | refine vb_t (by assumption) ?_ | refine vb_f (by assumption) ?_ | refine vo_i hgx ?_ | refine vpur_i (rsign' s hi1 rfl) ?_ | refine vpur_i (rdigits' s hi2 (by omega) hs) ?_ | refine vor_l ?_ | fail) <;> conv => whnf)
              exact ⟨five_eq rfl rfl hp (by rw [hXe]; rfl) (by rw [hfin]; exact hr), rfl⟩
          · have hn0 : digN s (pX s) ≠ 0 := fun h => hn (List.length_eq_zero_iff.1 (by rw [digs_len]; exact h))
            have q3 : ilt (Int.ofNat 0) (digN s (pX s) : Int) = true := by rw [ilt_t, ofn]; omega
            have hfin := numP_e hb h1 hn
            have hXe : rpX s = pE s + 1 := by unfold rpX; rw [if_pos ⟨h1, hn⟩]
            rcases t1 with t1 | ⟨t1, t2⟩
            all_goals
              repeat' ((first | refine vb_t rfl ?_ | refine vb_f rfl ?_ | refine vb_t (by assumption) ?_ | refine vb_f (by assumption) ?_ | refine vo_i hgx ?_ | refine vpur_i (rsign' s hi1 rfl) ?_ | refine vpur_i (rdigits' s hi2 (by omega) hs) ?_ | refine vor_l ?_ | fail) <;> conv => whnf)
              exact ⟨five_eq rfl rfl hp (by rw [hXe]; exact hi1) (by rw [hfin]; show iadd .i64 (iadd .i64 (iadd .i64 (iadd .i64 (pA s : Int) (digN s (pA s) : Int)) (Int.ofNat 1)) (sgn1 s (pE s + 1) : Int)) (digN s (pX s) : Int) = _; rw [hi2, iaddN (by omega)]), rfl⟩
        · have h1 : pIsE s = false := by
            unfold pIsE; rw [hce]; simp; exact ⟨fun e => hE1 (.inl e), fun e => hE1 (.inr e)⟩
          have t1 : ieq (c.toNat : Int) (Int.ofNat 101) = false := ieq_nc 101 rfl fun e => hE1 (.inl e)
          have t2 : ieq (c.toNat : Int) (Int.ofNat 69) = false := ieq_nc 69 rfl fun e => hE1 (.inr e)
          have hfin := numP_n hb (.inl h1)
          have hXe : rpX s = 0 := by unfold rpX; rw [if_neg (fun h => by rw [h1] at h; cases h.1)]
          repeat' ((first | refine vb_t rfl ?_ | refine vb_f rfl ?_ | refine vb_t (by assumption) ?_ | refine vb_f (by assumption) ?_ | refine vo_i hgx ?_ | refine vor_l ?_ | fail) <;> conv => whnf)
          exact ⟨five_eq rfl rfl hp (by rw [hXe]; rfl) (by rw [hfin]; exact hr), rfl⟩
      · try (exfalso; omega)
        all_goals
          have hlx : ilt (iadd .i64 (pA s : Int) (digN s (pA s) : Int)) (s.length : Int) = false := by rw [hr, ilt_f]; omega
          have h1 : pIsE s = false := by unfold pIsE; rw [List.getElem?_eq_none (by omega)]; rfl
          have hfin := numP_n hb (.inl h1)
          have hXe : rpX s = 0 := by unfold rpX; rw [if_neg (fun h => by rw [h1] at h; cases h.1)]
          repeat' ((first | refine vb_t rfl ?_ | refine vb_f rfl ?_ | refine vb_t (by assumption) ?_ | refine vb_f (by assumption) ?_ | refine vor_l ?_ | fail) <;> conv => whnf)
          exact ⟨five_eq rfl rfl hp (by rw [hXe]; rfl) (by rw [hfin]; exact hr), rfl⟩
    · have hn0 : digN s (pW s + 1) ≠ 0 := fun h => hn (List.length_eq_zero_iff.1 (by rw [digs_len]; exact h))
      have q2 : ilt (Int.ofNat 0) (digN s (pW s + 1) : Int) = true := by rw [ilt_t, ofn]; omega
      have hE : pE s = pW s + 1 + digN s (pW s + 1) := by unfold pE; rw [if_neg (by rw [hP]; exact hn), hP]; rfl
      have hr : iadd .i64 (iadd .i64 (iadd .i64 (pA s : Int) (digN s (pA s) : Int)) (Int.ofNat 1)) (digN s (pW s + 1) : Int) = ((pE s : Nat) : Int) := by rw [e2, hE, iaddN (by omega)]
      repeat' ((first | refine vb_t rfl ?_ | refine vb_f rfl ?_ | refine vb_t (by assumption) ?_ | refine vb_f (by assumption) ?_ | refine vo_i hg ?_ | refine vpur_i (rdigits' s e2 (by omega) hs) ?_ | refine vor_l ?_ | fail) <;> conv => whnf)
      by_cases hb : digs s (pA s) = [] ∧ pP s = []
      · have hw0 : digN s (pA s) = 0 := by rw [← digs_len, hb.1]; rfl
        have hp0 : (pP s).length = 0 := by rw [hb.2]; rfl
        have eq1 : iadd .i64 (digN s (pA s) : Int) ((digN s (pW s + 1) : Int)) = ((0 : Nat) : Int) := by rw [hp, hw0, hp0, iaddN (by decide)]
        have q1 : ieq (iadd .i64 (digN s (pA s) : Int) ((digN s (pW s + 1) : Int))) (Int.ofNat 0) = true := by rw [ieq_t, eq1]; rfl
        have hT : rpT s = [I 0, I 0, I 0, I 0, I 0] := by unfold rpT; rw [if_pos hb]
        rw [hT]
        repeat' ((first | refine vb_t rfl ?_ | refine vb_f rfl ?_ | refine vb_t (by assumption) ?_ | refine vb_f (by assumption) ?_ | refine vor_l ?_ | fail) <;> conv => whnf)
        exact ⟨rfl, rfl⟩
      have hT : rpT s = [I (pA s : Int), I (digN s (pA s) : Int), I ((pP s).length : Int), I (rpX s : Int), I ((numP s).stop : Int)] := by unfold rpT; rw [if_neg hb]
      have hWl : digN s (pA s) ≤ s.length := by have := digs_le2 s (pA s); rw [digs_len] at this; exact this
      have hPl := pP_le s
      have eq1 : iadd .i64 (digN s (pA s) : Int) ((digN s (pW s + 1) : Int)) = ((digN s (pA s) + (pP s).length : Nat) : Int) := by rw [hp, iaddN (by omega)]
      have q1 : ieq (iadd .i64 (digN s (pA s) : Int) ((digN s (pW s + 1) : Int))) (Int.ofNat 0) = false := by
        rw [ieq_f, eq1, ofn]
        intro h
        have h0 : digN s (pA s) = 0 ∧ (pP s).length = 0 := by omega
        exact hb ⟨List.length_eq_zero_iff.1 (by rw [digs_len]; exact h0.1), List.length_eq_zero_iff.1 h0.2⟩
      rw [hT]
      by_cases hx : pE s < s.length
      · obtain ⟨c, hce⟩ : ∃ c, s[pE s]? = some c := ⟨s[pE s], List.getElem?_eq_getElem hx⟩
        have hlx : ilt (iadd .i64 (iadd .i64 (iadd .i64 (pA s : Int) (digN s (pA s) : Int)) (Int.ofNat 1)) (digN s (pW s + 1) : Int)) (s.length : Int) = true := by rw [hr, ilt_t]; omega
        have hgx : iget s (iadd .i64 (iadd .i64 (iadd .i64 (pA s : Int) (digN s (pA s) : Int)) (Int.ofNat 1)) (digN s (pW s + 1) : Int)) = some c := by rw [hr]; exact iget_t hce
        by_cases hE1 : c = 101 ∨ c = 69
        · have h1 : pIsE s = true := by unfold pIsE; rw [hce]; rcases hE1 with rfl | rfl <;> rfl
          have hi1 : iadd .i64 (iadd .i64 (iadd .i64 (iadd .i64 (pA s : Int) (digN s (pA s) : Int)) (Int.ofNat 1)) (digN s (pW s + 1) : Int)) (Int.ofNat 1) = ((pE s + 1 : Nat) : Int) := by rw [hr]; exact iadd_one (by omega)
          have hs1 : sgn1 s (pE s + 1) ≤ 1 := by unfold sgn1; split <;> omega
          have hi2 : iadd .i64 (iadd .i64 (iadd .i64 (iadd .i64 (iadd .i64 (pA s : Int) (digN s (pA s) : Int)) (Int.ofNat 1)) (digN s (pW s + 1) : Int)) (Int.ofNat 1)) (sgn1 s (pE s + 1) : Int) = ((pX s : Nat) : Int) := by rw [hi1, iaddN (by omega)]; unfold pX; rw [← sgnN_1]
          have hX : pX s ≤ s.length + 1 := by unfold pX; rw [← sgnN_1]; omega
          have hN : digN s (pX s) ≤ s.length := by have := digs_le2 s (pX s); rw [digs_len] at this; exact this
          have t1 : ieq (c.toNat : Int) (Int.ofNat 101) = true ∨ (ieq (c.toNat : Int) (Int.ofNat 101) = false ∧ ieq (c.toNat : Int) (Int.ofNat 69) = true) := by
            rcases hE1 with rfl | rfl
            · exact .inl (ieq_c (c := 101) (k := 101) 101 rfl rfl)
            · exact .inr ⟨ieq_nc (c := 69) (k := 101) 101 rfl (by decide), ieq_c (c := 69) (k := 69) 69 rfl rfl⟩
          by_cases hn : digs s (pX s) = []
          · have hn0 : digN s (pX s) = 0 := by rw [← digs_len, hn]; rfl
            have q3 : ilt (Int.ofNat 0) (digN s (pX s) : Int) = false := by rw [ilt_f, hn0]; decide
            have hfin := numP_n hb (.inr hn)
            have hXe : rpX s = 0 := by unfold rpX; rw [if_neg (fun h => h.2 hn)]
            rcases t1 with t1 | ⟨t1, t2⟩
            all_goals
              repeat' ((first | refine vb_t rfl ?_ | refine vb_f rfl ?_ | refine vb_t (by assumption) ?_ | refine vb_f (by assumption) ?_ | refine vo_i hgx ?_ | refine vpur_i (rsign' s hi1 rfl) ?_ | refine vpur_i (rdigits' s hi2 (by omega) hs) ?_ | refine vor_l ?_ | fail) <;> conv => whnf)
              exact ⟨five_eq rfl rfl hp (by rw [hXe]; rfl) (by rw [hfin]; exact hr), rfl⟩
          · have hn0 : digN s (pX s) ≠ 0 := fun h => hn (List.length_eq_zero_iff.1 (by rw [digs_len]; exact h))
            have q3 : ilt (Int.ofNat 0) (digN s (pX s) : Int) = true := by rw [ilt_t, ofn]; omega
            have hfin := numP_e hb h1 hn
            have hXe : rpX s = pE s + 1 := by unfold rpX; rw [if_pos ⟨h1, hn⟩]
            rcases t1 with t1 | ⟨t1, t2⟩
            all_goals
              repeat' ((first | refine vb_t rfl ?_ | refine vb_f rfl ?_ | refine vb_t (by assumption) ?_ | refine vb_f (by assumption) ?_ | refine vo_i hgx ?_ | refine vpur_i (rsign' s hi1 rfl) ?_ | refine vpur_i (rdigits' s hi2 (by omega) hs) ?_ | refine vor_l ?_ | fail) <;> conv => whnf)
              exact ⟨five_eq rfl rfl hp (by rw [hXe]; exact hi1) (by rw [hfin]; show iadd .i64 (iadd .i64 (iadd .i64 (iadd .i64 (iadd .i64 (iadd .i64 (pA s : Int) (digN s (pA s) : Int)) (Int.ofNat 1)) (digN s (pW s + 1) : Int)) (Int.ofNat 1)) (sgn1 s (pE s + 1) : Int)) (digN s (pX s) : Int) = _; rw [hi2, iaddN (by omega)]), rfl⟩
        · have h1 : pIsE s = false := by
            unfold pIsE; rw [hce]; simp; exact ⟨fun e => hE1 (.inl e), fun e => hE1 (.inr e)⟩
          have t1 : ieq (c.toNat : Int) (Int.ofNat 101) = false := ieq_nc 101 rfl fun e => hE1 (.inl e)
          have t2 : ieq (c.toNat : Int) (Int.ofNat 69) = false := ieq_nc 69 rfl fun e => hE1 (.inr e)
          have hfin := numP_n hb (.inl h1)
          have hXe : rpX s = 0 := by unfold rpX; rw [if_neg (fun h => by rw [h1] at h; cases h.1)]
          repeat' ((first | refine vb_t rfl ?_ | refine vb_f rfl ?_ | refine vb_t (by assumption) ?_ | refine vb_f (by assumption) ?_ | refine vo_i hgx ?_ | refine vor_l ?_ | fail) <;> conv => whnf)
          exact ⟨five_eq rfl rfl hp (by rw [hXe]; rfl) (by rw [hfin]; exact hr), rfl⟩
      · try (exfalso; omega)
        all_goals
          have hlx : ilt (iadd .i64 (iadd .i64 (iadd .i64 (pA s : Int) (digN s (pA s) : Int)) (Int.ofNat 1)) (digN s (pW s + 1) : Int)) (s.length : Int) = false := by rw [hr, ilt_f]; omega
          have h1 : pIsE s = false := by unfold pIsE; rw [List.getElem?_eq_none (by omega)]; rfl
          have hfin := numP_n hb (.inl h1)
          have hXe : rpX s = 0 := by unfold rpX; rw [if_neg (fun h => by rw [h1] at h; cases h.1)]
          repeat' ((first | refine vb_t rfl ?_ | refine vb_f rfl ?_ | refine vb_t (by assumption) ?_ | refine vb_f (by assumption) ?_ | refine vor_l ?_ | fail) <;> conv => whnf)
          exact ⟨five_eq rfl rfl hp (by rw [hXe]; rfl) (by rw [hfin]; exact hr), rfl⟩
  · have hP : pP s = [] := by unfold pP; rw [if_neg hd]
    have hE : pE s = pW s := by unfold pE; rw [if_pos hP]
    have hr : iadd .i64 (pA s : Int) (digN s (pA s) : Int) = ((pE s : Nat) : Int) := by rw [e1, hE]
    have hdd : s[pW s]? ≠ some 46 := by simpa [pDot] using hd
    have hp : (Int.ofNat 0) = ((pP s).length : Int) := by rw [hP]; rfl
    by_cases hl : pW s < s.length
    · obtain ⟨c0, hc⟩ : ∃ c, s[pW s]? = some c := ⟨s[pW s], List.getElem?_eq_getElem hl⟩
      have hg : iget s (iadd .i64 (pA s : Int) (digN s (pA s) : Int)) = some c0 := by rw [e1]; exact iget_t hc
      have hlt : ilt (iadd .i64 (pA s : Int) (digN s (pA s) : Int)) (s.length : Int) = true := by rw [e1, ilt_t]; omega
      have he : ieq (c0.toNat : Int) (Int.ofNat 46) = false := ieq_nc 46 rfl fun e => hdd (by rw [hc, e])
      repeat' ((first | refine vb_t rfl ?_ | refine vb_f rfl ?_ | refine vb_t (by assumption) ?_ | refine vb_f (by assumption) ?_ | refine vo_i hg ?_ | refine vor_l ?_ | fail) <;> conv => whnf)
      by_cases hb : digs s (pA s) = [] ∧ pP s = []
      · have hw0 : digN s (pA s) = 0 := by rw [← digs_len, hb.1]; rfl
        have hp0 : (pP s).length = 0 := by rw [hb.2]; rfl
        have eq1 : iadd .i64 (digN s (pA s) : Int) (Int.ofNat 0) = ((0 : Nat) : Int) := by rw [hp, hw0, hp0, iaddN (by decide)]
        have q1 : ieq (iadd .i64 (digN s (pA s) : Int) (Int.ofNat 0)) (Int.ofNat 0) = true := by rw [ieq_t, eq1]; rfl
        have hT : rpT s = [I 0, I 0, I 0, I 0, I 0] := by unfold rpT; rw [if_pos hb]
        rw [hT]
        repeat' ((first | refine vb_t rfl ?_ | refine vb_f rfl ?_ | refine vb_t (by assumption) ?_ | refine vb_f (by assumption) ?_ | refine vor_l ?_ | fail) <;> conv => whnf)
        exact ⟨rfl, rfl⟩
      have hT : rpT s = [I (pA s : Int), I (digN s (pA s) : Int), I ((pP s).length : Int), I (rpX s : Int), I ((numP s).stop : Int)] := by unfold rpT; rw [if_neg hb]
      have hWl : digN s (pA s) ≤ s.length := by have := digs_le2 s (pA s); rw [digs_len] at this; exact this
      have hPl := pP_le s
      have eq1 : iadd .i64 (digN s (pA s) : Int) (Int.ofNat 0) = ((digN s (pA s) + (pP s).length : Nat) : Int) := by rw [hp, iaddN (by omega)]
      have q1 : ieq (iadd .i64 (digN s (pA s) : Int) (Int.ofNat 0)) (Int.ofNat 0) = false := by
        rw [ieq_f, eq1, ofn]
        intro h
        have h0 : digN s (pA s) = 0 ∧ (pP s).length = 0 := by omega
        exact hb ⟨List.length_eq_zero_iff.1 (by rw [digs_len]; exact h0.1), List.length_eq_zero_iff.1 h0.2⟩
      rw [hT]
      by_cases hx : pE s < s.length
      · obtain ⟨c, hce⟩ : ∃ c, s[pE s]? = some c := ⟨s[pE s], List.getElem?_eq_getElem hx⟩
        have hlx : ilt (iadd .i64 (pA s : Int) (digN s (pA s) : Int)) (s.length : Int) = true := by rw [hr, ilt_t]; omega
        have hgx : iget s (iadd .i64 (pA s : Int) (digN s (pA s) : Int)) = some c := by rw [hr]; exact iget_t hce
        by_cases hE1 : c = 101 ∨ c = 69
        · have h1 : pIsE s = true := by unfold pIsE; rw [hce]; rcases hE1 with rfl | rfl <;> rfl
          have hi1 : iadd .i64 (iadd .i64 (pA s : Int) (digN s (pA s) : Int)) (Int.ofNat 1) = ((pE s + 1 : Nat) : Int) := by rw [hr]; exact iadd_one (by omega)
          have hs1 : sgn1 s (pE s + 1) ≤ 1 := by unfold sgn1; split <;> omega
          have hi2 : iadd .i64 (iadd .i64 (iadd .i64 (pA s : Int) (digN s (pA s) : Int)) (Int.ofNat 1)) (sgn1 s (pE s + 1) : Int) = ((pX s : Nat) : Int) := by rw [hi1, iaddN (by omega)]; unfold pX; rw [← sgnN_1]
          have hX : pX s ≤ s.length + 1 := by unfold pX; rw [← sgnN_1]; omega
          have hN : digN s (pX s) ≤ s.length := by have := digs_le2 s (pX s); rw [digs_len] at this; exact this
          have t1 : ieq (c.toNat : Int) (Int.ofNat 101) = true ∨ (ieq (c.toNat : Int) (Int.ofNat 101) = false ∧ ieq (c.toNat : Int) (Int.ofNat 69) = true) := by
            rcases hE1 with rfl | rfl
            · exact .inl (ieq_c (c := 101) (k := 101) 101 rfl rfl)
            · exact .inr ⟨ieq_nc (c := 69) (k := 101) 101 rfl (by decide), ieq_c (c := 69) (k := 69) 69 rfl rfl⟩
          by_cases hn : digs s (pX s) = []
          · have hn0 : digN s (pX s) = 0 := by rw [← digs_len, hn]; rfl
            have q3 : ilt (Int.ofNat 0) (digN s (pX s) : Int) = false := by rw [ilt_f, hn0]; decide
            have hfin := numP_n hb (.inr hn)
            have hXe : rpX s = 0 := by unfold rpX; rw [if_neg (fun h => h.2 hn)]
            rcases t1 with t1 | ⟨t1, t2⟩
            all_goals
              repeat' ((first | refine vb_t rfl ?_ | refine vb_f rfl ?_ | refine vb_t (by assumption) ?_ | refine vb_f (by assumption) ?_ | refine vo_i hgx ?_ | refine vpur_i (rsign' s hi1 rfl) ?_ | refine vpur_i (rdigits' s hi2 (by omega) hs) ?_ | refine vor_l ?_ | fail) <;> conv => whnf)
              exact ⟨five_eq rfl rfl hp (by rw [hXe]; rfl) (by rw [hfin]; exact hr), rfl⟩
          · have hn0 : digN s (pX s) ≠ 0 := fun h => hn (List.length_eq_zero_iff.1 (by rw [digs_len]; exact h))
            have q3 : ilt (Int.ofNat 0) (digN s (pX s) : Int) = true := by rw [ilt_t, ofn]; omega
            have hfin := numP_e hb h1 hn
            have hXe : rpX s = pE s + 1 := by unfold rpX; rw [if_pos ⟨h1, hn⟩]
            rcases t1 with t1 | ⟨t1, t2⟩
            all_goals
              repeat' ((first | refine vb_t rfl ?_ | refine vb_f rfl ?_ | refine vb_t (by assumption) ?_ | refine vb_f (by assumption) ?_ | refine vo_i hgx ?_ | refine vpur_i (rsign' s hi1 rfl) ?_ | refine vpur_i (rdigits' s hi2 (by omega) hs) ?_ | refine vor_l ?_ | fail) <;> conv => whnf)
              exact ⟨five_eq rfl rfl hp (by rw [hXe]; exact hi1) (by rw [hfin]; show iadd .i64 (iadd .i64 (iadd .i64 (iadd .i64 (pA s : Int) (digN s (pA s) : Int)) (Int.ofNat 1)) (sgn1 s (pE s + 1) : Int)) (digN s (pX s) : Int) = _; rw [hi2, iaddN (by omega)]), rfl⟩
        · have h1 : pIsE s = false := by
            unfold pIsE; rw [hce]; simp; exact ⟨fun e => hE1 (.inl e), fun e => hE1 (.inr e)⟩
          have t1 : ieq (c.toNat : Int) (Int.ofNat 101) = false := ieq_nc 101 rfl fun e => hE1 (.inl e)
          have t2 : ieq (c.toNat : Int) (Int.ofNat 69) = false := ieq_nc 69 rfl fun e => hE1 (.inr e)
          have hfin := numP_n hb (.inl h1)
          have hXe : rpX s = 0 := by unfold rpX; rw [if_neg (fun h => by rw [h1] at h; cases h.1)]
          repeat' ((first | refine vb_t rfl ?_ | refine vb_f rfl ?_ | refine vb_t (by assumption) ?_ | refine vb_f (by assumption) ?_ | refine vo_i hgx ?_ | refine vor_l ?_ | fail) <;> conv => whnf)
          exact ⟨five_eq rfl rfl hp (by rw [hXe]; rfl) (by rw [hfin]; exact hr), rfl⟩
      · try (exfalso; omega)
        all_goals
          have hlx : ilt (iadd .i64 (pA s : Int) (digN s (pA s) : Int)) (s.length : Int) = false := by rw [hr, ilt_f]; omega
          have h1 : pIsE s = false := by unfold pIsE; rw [List.getElem?_eq_none (by omega)]; rfl
          have hfin := numP_n hb (.inl h1)
          have hXe : rpX s = 0 := by unfold rpX; rw [if_neg (fun h => by rw [h1] at h; cases h.1)]
          repeat' ((first | refine vb_t rfl ?_ | refine vb_f rfl ?_ | refine vb_t (by assumption) ?_ | refine vb_f (by assumption) ?_ | refine vor_l ?_ | fail) <;> conv => whnf)
          exact ⟨five_eq rfl rfl hp (by rw [hXe]; rfl) (by rw [hfin]; exact hr), rfl⟩
    · have hlt : ilt (iadd .i64 (pA s : Int) (digN s (pA s) : Int)) (s.length : Int) = false := by rw [e1, ilt_f]; omega
      repeat' ((first | refine vb_t rfl ?_ | refine vb_f rfl ?_ | refine vb_t (by assumption) ?_ | refine vb_f (by assumption) ?_ | refine vor_l ?_ | fail) <;> conv => whnf)
      by_cases hb : digs s (pA s) = [] ∧ pP s = []
      · have hw0 : digN s (pA s) = 0 := by rw [← digs_len, hb.1]; rfl
        have hp0 : (pP s).length = 0 := by rw [hb.2]; rfl
        have eq1 : iadd .i64 (digN s (pA s) : Int) (Int.ofNat 0) = ((0 : Nat) : Int) := by rw [hp, hw0, hp0, iaddN (by decide)]
        have q1 : ieq (iadd .i64 (digN s (pA s) : Int) (Int.ofNat 0)) (Int.ofNat 0) = true := by rw [ieq_t, eq1]; rfl
        have hT : rpT s = [I 0, I 0, I 0, I 0, I 0] := by unfold rpT; rw [if_pos hb]
        rw [hT]
        repeat' ((first | refine vb_t rfl ?_ | refine vb_f rfl ?_ | refine vb_t (by assumption) ?_ | refine vb_f (by assumption) ?_ | refine vor_l ?_ | fail) <;> conv => whnf)
        exact ⟨rfl, rfl⟩
      have hT : rpT s = [I (pA s : Int), I (digN s (pA s) : Int), I ((pP s).length : Int), I (rpX s : Int), I ((numP s).stop : Int)] := by unfold rpT; rw [if_neg hb]
      have hWl : digN s (pA s) ≤ s.length := by have := digs_le2 s (pA s); rw [digs_len] at this; exact this
      have hPl := pP_le s
      have eq1 : iadd .i64 (digN s (pA s) : Int) (Int.ofNat 0) = ((digN s (pA s) + (pP s).length : Nat) : Int) := by rw [hp, iaddN (by omega)]
      have q1 : ieq (iadd .i64 (digN s (pA s) : Int) (Int.ofNat 0)) (Int.ofNat 0) = false := by
        rw [ieq_f, eq1, ofn]
        intro h
        have h0 : digN s (pA s) = 0 ∧ (pP s).length = 0 := by omega
        exact hb ⟨List.length_eq_zero_iff.1 (by rw [digs_len]; exact h0.1), List.length_eq_zero_iff.1 h0.2⟩
      rw [hT]
      by_cases hx : pE s < s.length
      · obtain ⟨c, hce⟩ : ∃ c, s[pE s]? = some c := ⟨s[pE s], List.getElem?_eq_getElem hx⟩
        have hlx : ilt (iadd .i64 (pA s : Int) (digN s (pA s) : Int)) (s.length : Int) = true := by rw [hr, ilt_t]; omega
        have hgx : iget s (iadd .i64 (pA s : Int) (digN s (pA s) : Int)) = some c := by rw [hr]; exact iget_t hce
        by_cases hE1 : c = 101 ∨ c = 69
        · have h1 : pIsE s = true := by unfold pIsE; rw [hce]; rcases hE1 with rfl | rfl <;> rfl
          have hi1 : iadd .i64 (iadd .i64 (pA s : Int) (digN s (pA s) : Int)) (Int.ofNat 1) = ((pE s + 1 : Nat) : Int) := by rw [hr]; exact iadd_one (by omega)
          have hs1 : sgn1 s (pE s + 1) ≤ 1 := by unfold sgn1; split <;> omega
          have hi2 : iadd .i64 (iadd .i64 (iadd .i64 (pA s : Int) (digN s (pA s) : Int)) (Int.ofNat 1)) (sgn1 s (pE s + 1) : Int) = ((pX s : Nat) : Int) := by rw [hi1, iaddN (by omega)]; unfold pX; rw [← sgnN_1]
          have hX : pX s ≤ s.length + 1 := by unfold pX; rw [← sgnN_1]; omega
          have hN : digN s (pX s) ≤ s.length := by have := digs_le2 s (pX s); rw [digs_len] at this; exact this
          have t1 : ieq (c.toNat : Int) (Int.ofNat 101) = true ∨ (ieq (c.toNat : Int) (Int.ofNat 101) = false ∧ ieq (c.toNat : Int) (Int.ofNat 69) = true) := by
            rcases hE1 with rfl | rfl
            · exact .inl (ieq_c (c := 101) (k := 101) 101 rfl rfl)
            · exact .inr ⟨ieq_nc (c := 69) (k := 101) 101 rfl (by decide), ieq_c (c := 69) (k := 69) 69 rfl rfl⟩
          by_cases hn : digs s (pX s) = []
          · have hn0 : digN s (pX s) = 0 := by rw [← digs_len, hn]; rfl
            have q3 : ilt (Int.ofNat 0) (digN s (pX s) : Int) = false := by rw [ilt_f, hn0]; decide
            have hfin := numP_n hb (.inr hn)
            have hXe : rpX s = 0 := by unfold rpX; rw [if_neg (fun h => h.2 hn)]
            rcases t1 with t1 | ⟨t1, t2⟩
            all_goals
              repeat' ((first | refine vb_t rfl ?_ | refine vb_f rfl ?_ | refine vb_t (by assumption) ?_ | refine vb_f (by assumption) ?_ | refine vo_i hgx ?_ | refine vpur_i (rsign' s hi1 rfl) ?_ | refine vpur_i (rdigits' s hi2 (by omega) hs) ?_ | refine vor_l ?_ | fail) <;> conv => whnf)
              exact ⟨five_eq rfl rfl hp (by rw [hXe]; rfl) (by rw [hfin]; exact hr), rfl⟩
          · have hn0 : digN s (pX s) ≠ 0 := fun h => hn (List.length_eq_zero_iff.1 (by rw [digs_len]; exact h))
            have q3 : ilt (Int.ofNat 0) (digN s (pX s) : Int) = true := by rw [ilt_t, ofn]; omega
            have hfin := numP_e hb h1 hn
            have hXe : rpX s = pE s + 1 := by unfold rpX; rw [if_pos ⟨h1, hn⟩]
            rcases t1 with t1 | ⟨t1, t2⟩
            all_goals
              repeat' ((first | refine vb_t rfl ?_ | refine vb_f rfl ?_ | refine vb_t (by assumption) ?_ | refine vb_f (by assumption) ?_ | refine vo_i hgx ?_ | refine vpur_i (rsign' s hi1 rfl) ?_ | refine vpur_i (rdigits' s hi2 (by omega) hs) ?_ | refine vor_l ?_ | fail) <;> conv => whnf)
              exact ⟨five_eq rfl rfl hp (by rw [hXe]; exact hi1) (by rw [hfin]; show iadd .i64 (iadd .i64 (iadd .i64 (iadd .i64 (pA s : Int) (digN s (pA s) : Int)) (Int.ofNat 1)) (sgn1 s (pE s + 1) : Int)) (digN s (pX s) : Int) = _; rw [hi2, iaddN (by omega)]), rfl⟩
        · have h1 : pIsE s = false := by
            unfold pIsE; rw [hce]; simp; exact ⟨fun e => hE1 (.inl e), fun e => hE1 (.inr e)⟩
          have t1 : ieq (c.toNat : Int) (Int.ofNat 101) = false := ieq_nc 101 rfl fun e => hE1 (.inl e)
          have t2 : ieq (c.toNat : Int) (Int.ofNat 69) = false := ieq_nc 69 rfl fun e => hE1 (.inr e)
          have hfin := numP_n hb (.inl h1)
          have hXe : rpX s = 0 := by unfold rpX; rw [if_neg (fun h => by rw [h1] at h; cases h.1)]
          repeat' ((first | refine vb_t rfl ?_ | refine vb_f rfl ?_ | refine vb_t (by assumption) ?_ | refine vb_f (by assumption) ?_ | refine vo_i hgx ?_ | refine vor_l ?_ | fail) <;> conv => whnf)
          exact ⟨five_eq rfl rfl hp (by rw [hXe]; rfl) (by rw [hfin]; exact hr), rfl⟩
      · try (exfalso; omega)
        all_goals
          have hlx : ilt (iadd .i64 (pA s : Int) (digN s (pA s) : Int)) (s.length : Int) = false := by rw [hr, ilt_f]; omega
          have h1 : pIsE s = false := by unfold pIsE; rw [List.getElem?_eq_none (by omega)]; rfl
          have hfin := numP_n hb (.inl h1)
          have hXe : rpX s = 0 := by unfold rpX; rw [if_neg (fun h => by rw [h1] at h; cases h.1)]
          repeat' ((first | refine vb_t rfl ?_ | refine vb_f rfl ?_ | refine vb_t (by assumption) ?_ | refine vb_f (by assumption) ?_ | refine vor_l ?_ | fail) <;> conv => whnf)
          exact ⟨five_eq rfl rfl hp (by rw [hXe]; rfl) (by rw [hfin]; exact hr), rfl⟩
end Go.Proofs.YtjeblkicgmmhiaaGreatDoor.Ab
namespace Go.Proofs.YtjeblkicgmmhiaaGreatDoor.Ab
open Go
set_option linter.unusedSimpArgs false
set_option maxRecDepth 100000
set_option linter.unusedVariables false
set_option maxHeartbeats 4000000
theorem nat_row (l : List Nat) (i : Nat) {c : Nat} (h : l[i]? = some c) : iget (l.map natRow) (i : Int) = some (natRow c) := iget_t (by rw [List.getElem?_map, h]; rfl)
theorem rem10 (a : Nat) : irem (a : Int) (Int.ofNat 10) = ((a % 10 : Nat) : Int) := by rw [g_ofn, u_rem]
theorem quo10 {a : Nat} (h : a ≤ 4611686018427387904) : iquo .i64 (a : Int) (Int.ofNat 10) = ((a / 10 : Nat) : Int) := by rw [g_ofn, g_quo h]
theorem map_snoc (l : List Nat) (z : Int) (n : Nat) (h : z = (n : Int)) : l.map natRow ++ [[DV.int .i64 z]] = (l ++ [n]).map natRow := by subst h; rw [List.map_append]; rfl
theorem digR_snoc {l : List Nat} {c : Nat} (h : digR l) (hc : c ≤ 9) : digR (l ++ [c]) := fun x hx => by
  rcases List.mem_append.1 hx with hx | hx
  · exact h x hx
  · rw [List.mem_singleton.1 hx]; exact hc
theorem rscaled_ok (L : List Nat) (hL : L ≠ []) (hd : digR L) (hl : L.length ≤ 1000) (sc : Nat) (hsc : sc ≤ 1000) :
    ∃ M : List Nat, Pur F0 126 [.d (.sl 1 (L.map natRow)), I (sc : Int)] [] .no (.ret (.d (.sl 1 (M.map natRow)))) .no ∧ (digR M ∧ valR M = valR L * sc ∧ M.length ≤ 3000) := by
  refine pur_ret (σ := List Nat) (g := fun M => .d (.sl 1 (M.map natRow))) (Q := fun M => digR M ∧ valR M = valR L * sc ∧ M.length ≤ 3000) code126_ok ?_
  conv => whnf
  have h0 : 0 < L.length := List.length_pos_iff.2 hL
  obtain ⟨c0, hc0⟩ : ∃ c, L[0]? = some c := ⟨L[0], List.getElem?_eq_getElem h0⟩
  have hc9 := hd c0 (List.mem_of_getElem? hc0)
  have hm0 : c0 * sc ≤ 9000 := by have := Nat.mul_le_mul hc9 hsc; omega
  have hr0 : iget (L.map natRow) (Int.ofNat 0) = some (natRow c0) := nat_row L 0 hc0
  have qn0 : ilt (Int.ofNat 0) ((L.map natRow).length : Int) = true := by rw [ilt_t, List.length_map, ofn]; omega
  have hz : iz (Int.ofNat 10) = false := by rw [iz_f]; decide
  have ev0 : iadd .i64 (imul .i64 (c0 : Int) (sc : Int)) (Int.ofNat 0) = ((c0 * sc : Nat) : Int) := by rw [imul64 (by omega) (by omega), iadd64 (by rw [ofn]; omega) (by rw [ofn]; omega), ofn]; omega
  have ht1 : L.take 1 = [c0] := by rw [List.take_add_one, hc0]; rfl
  refine vloop_once ?_
  conv => whnf
  repeat' ((first | refine vb_t rfl ?_ | refine vb_f rfl ?_ | refine vb_t (by assumption) ?_ | refine vb_f (by assumption) ?_ | refine vo_i hr0 ?_ | refine vb_t (room_t (by simp <;> omega)) ?_ | refine vor_l ?_ | fail) <;> conv => whnf)
  refine vloop_eq2 (fr' := [(0, .d (.sl 1 (L.map natRow))), (1, I (sc : Int)), (4, .d .nilsl), (5, .osl 0 0 0 1), (6, I ((c0 * sc / 10 : Nat) : Int)), (7, I ((1 : Nat) : Int))]) (h' := [⟨.mine, 3, .arr true 0 1 (([c0 * sc % 10] : List Nat).map natRow)⟩]) ?_ ?_ ?_
  · exact cons_eq rfl (cons_eq rfl (cons_eq rfl (cons_eq rfl (cons_eq (slot_eq (I_eq (by
      show iquo .i64 (iadd .i64 (imul .i64 (c0 : Int) (sc : Int)) (Int.ofNat 0)) (Int.ofNat 10) = _
      rw [ev0, quo10 (by omega)]))) (cons_eq (slot_eq (I_eq (iadd_one (i := 0) (by omega)))) rfl)))))
  · refine cons_eq (arr_eq ?_) rfl
    show [[DV.int .i64 (irem (iadd .i64 (imul .i64 (c0 : Int) (sc : Int)) (Int.ofNat 0)) (Int.ofNat 10))]] = [natRow (c0 * sc % 10)]
    rw [ev0, rem10]; rfl
  refine vloop_by (σ := { x : Nat × Nat × List Nat × Nat // 1 ≤ x.1 ∧ x.1 ≤ L.length ∧ x.2.2.1.length = x.1 ∧ digR x.2.2.1 ∧ valR x.2.2.1 + x.2.2.2 * 10 ^ x.1 = valR (L.take x.1) * sc ∧ x.2.2.2 ≤ 1000 })
    (fun x => [(0, .d (.sl 1 (L.map natRow))), (1, I (sc : Int)), (4, .d .nilsl), (5, .osl 0 x.1.2.1 0 x.1.2.2.1.length), (6, I (x.1.2.2.2 : Int)), (7, I (x.1.1 : Int))])
    (fun x => [⟨.mine, 3, .arr true x.1.2.1 1 (x.1.2.2.1.map natRow)⟩]) (fun x => L.length - x.1.1) ?_ ⟨(1, 0, [c0 * sc % 10], c0 * sc / 10), Nat.le_refl _, h0, rfl, fun x hx => by rw [List.mem_singleton.1 hx]; omega, by
      show valR [c0 * sc % 10] + c0 * sc / 10 * 10 ^ 1 = valR (L.take 1) * sc
      rw [ht1]; simp only [valR, Nat.mul_zero, Nat.add_zero, Nat.pow_one]; omega, by show c0 * sc / 10 ≤ 1000; omega⟩
  rintro ⟨⟨i, g, l, ca⟩, hi1, hi, hll, hlg, hv, hca⟩
  simp only at hi1 hi hll hlg hv hca
  have hq : ieq (l.length : Int) ((l.map natRow).length : Int) = true := by rw [ieq_t]; simp
  have hg : Nat.beq g g = true := by simp
  conv => whnf
  by_cases hlt : i < L.length
  · obtain ⟨c, hc⟩ : ∃ c, L[i]? = some c := ⟨L[i], List.getElem?_eq_getElem hlt⟩
    have hr := nat_row L i hc
    have hc9 := hd c (List.mem_of_getElem? hc)
    have hm : c * sc ≤ 9000 := by have := Nat.mul_le_mul hc9 hsc; omega
    have q1 : ilt (i : Int) ((L.map natRow).length : Int) = true := by rw [ilt_t, List.length_map]; omega
    have ev : iadd .i64 (imul .i64 (c : Int) (sc : Int)) (ca : Int) = ((c * sc + ca : Nat) : Int) := by rw [imul64 (by omega) (by omega), iadd64 (by omega) (by omega)]; omega
    have hms := mul_step (c := c) hv
    have hT : L.take (i + 1) = L.take i ++ [c] := by rw [List.take_add_one, hc]; rfl
    have hTl : (L.take i).length = i := by rw [List.length_take]; omega
    repeat' ((first | refine vb_t rfl ?_ | refine vb_f rfl ?_ | refine vb_t (by assumption) ?_ | refine vb_f (by assumption) ?_ | refine vo_i hr ?_ | refine vb_t (room_t (by simp <;> omega)) ?_ | refine vor_l ?_ | fail) <;> conv => whnf)
    refine ⟨⟨(i + 1, g + 1, l ++ [(c * sc + ca) % 10], (c * sc + ca) / 10), by simp only; omega, by simp only; omega, by simp only [List.length_append, List.length_singleton]; omega, digR_snoc hlg (by omega), ?_, by simp only; omega⟩, by simp only; omega,
      cons_eq rfl (cons_eq rfl (cons_eq rfl (cons_eq (slot_eq (osl_eq rfl (by simp))) (cons_eq (slot_eq (I_eq ?_)) (cons_eq (slot_eq (I_eq (iadd_one (i := i) (by omega)))) rfl))))), cons_eq (arr_eq (map_snoc _ _ _ ?_)) rfl, rfl, rfl⟩
    · show valR (l ++ [(c * sc + ca) % 10]) + (c * sc + ca) / 10 * 10 ^ (i + 1) = valR (L.take (i + 1)) * sc
      rw [hT, valR_snoc, valR_snoc, hll, hTl, Nat.pow_succ, Nat.mul_comm (10 ^ i) ((c * sc + ca) % 10), Nat.mul_comm (10 ^ i) c, Nat.add_comm (valR (L.take i))]
      rw [← hms]; omega
    · show iquo .i64 (iadd .i64 (imul .i64 (c : Int) (sc : Int)) (ca : Int)) (Int.ofNat 10) = _
      rw [ev, quo10 (by omega)]
    · show irem (iadd .i64 (imul .i64 (c : Int) (sc : Int)) (ca : Int)) (Int.ofNat 10) = _
      rw [ev, rem10]
  · have hiL : i = L.length := by omega
    have q1 : ilt (i : Int) ((L.map natRow).length : Int) = false := by rw [ilt_f, List.length_map]; omega
    rw [hiL, List.take_length, ← hiL, ← hll] at hv
    clear hd hc0 hr0 hm0 ev0 ht1 qn0
    repeat' ((first | refine vb_t rfl ?_ | refine vb_f rfl ?_ | refine vb_t (by assumption) ?_ | refine vb_f (by assumption) ?_ | refine vor_l ?_ | fail) <;> conv => whnf)
    refine vloop_by (σ := { x : Nat × List Nat × Nat // x.2.1 ≠ [] ∧ digR x.2.1 ∧ valR x.2.1 + x.2.2 * 10 ^ x.2.1.length = valR L * sc ∧ x.2.1.length + x.2.2 ≤ 2000 })
      (fun x => [(4, .d .nilsl), (5, .osl 0 x.1.1 0 x.1.2.1.length), (6, I (x.1.2.2 : Int))])
      (fun x => [⟨.mine, 3, .arr true x.1.1 1 (x.1.2.1.map natRow)⟩]) (fun x => x.1.2.2) ?_ ⟨(g, l, ca), fun e => by have e' : l = [] := e; rw [e'] at hll; simp at hll; omega, hlg, hv, by simp only; omega⟩
    clear hq hg hv hll hlg hca
    rintro ⟨⟨g, l, ca⟩, hl0, hlg, hv, hca⟩
    simp only at hl0 hlg hv hca
    have hq : ieq (l.length : Int) ((l.map natRow).length : Int) = true := by rw [ieq_t]; simp
    have hg : Nat.beq g g = true := by simp
    conv => whnf
    by_cases hc0 : ca = 0
    · have q2 : ilt (Int.ofNat 0) (ca : Int) = false := by rw [ilt_f, hc0]; decide
      have he : (l.map natRow).isEmpty = false := by
        cases l with
        | nil => exact (hl0 rfl).elim
        | cons c t => rfl
      repeat' ((first | refine vb_t rfl ?_ | refine vb_f rfl ?_ | refine vb_t (by assumption) ?_ | refine vb_f (by assumption) ?_ | refine vor_l ?_ | fail) <;> conv => whnf)
      refine ⟨l, ?_, rfl, hlg, by rw [← hv, hc0]; omega, by omega⟩
      show CR.ret (.d (.sl 1 (((l.map natRow).take l.length).drop 0))) = _
      rw [List.drop_zero, List.take_of_length_le (by simp)]
    · have q2 : ilt (Int.ofNat 0) (ca : Int) = true := by rw [ilt_t, ofn]; omega
      have hms := mul_step (c := 0) hv
      rw [Nat.zero_mul, Nat.zero_mul, Nat.zero_add, Nat.zero_add] at hms
      repeat' ((first | refine vb_t rfl ?_ | refine vb_f rfl ?_ | refine vb_t (by assumption) ?_ | refine vb_f (by assumption) ?_ | refine vb_t (room_t (by simp <;> omega)) ?_ | refine vor_l ?_ | fail) <;> conv => whnf)
      refine ⟨⟨(g + 1, l ++ [ca % 10], ca / 10), by simp, digR_snoc hlg (by omega), ?_, by simp only [List.length_append, List.length_singleton]; omega⟩, by simp only; omega,
        cons_eq rfl (cons_eq (slot_eq (osl_eq rfl (by simp))) (cons_eq (slot_eq (I_eq (show iquo .i64 (ca : Int) (Int.ofNat 10) = _ from quo10 (by omega)))) rfl)), cons_eq (arr_eq (map_snoc _ _ _ (rem10 ca))) rfl, rfl, rfl⟩
      show valR (l ++ [ca % 10]) + ca / 10 * 10 ^ (l ++ [ca % 10]).length = valR L * sc
      rw [valR_snoc, List.length_append, List.length_singleton, Nat.pow_succ, Nat.mul_comm (10 ^ l.length) (ca % 10), ← hms]; omega
theorem isub1 {j : Nat} (h : j ≤ 1000000) : isub .i64 ((j : Int) - 1) (Int.ofNat 1) = ((j : Int) - 1) - 1 := by rw [ofn, isub64 (by omega) (by omega)]; omega
theorem rround_ok (D : List Nat) (hd : digR D) (hl : D.length ≤ 10000) (b : Int) (hb1 : -10000 ≤ b) (hb2 : b ≤ 10000) :
    Pur F0 125 [.d (.sl 1 (D.map natRow)), I b] [] .no (.ret (I (rndM (valR D) b : Nat))) .no := by
  refine pur_code code125_ok ?_
  conv => whnf
  refine vloop_eq2 (fr' := [(0, .d (.sl 1 (D.map natRow))), (1, I b), (4, I (Int.ofNat 0)), (5, I ((capM (valR (D.drop D.length)) : Nat) : Int)), (6, I ((D.length : Int) - 1))]) (h' := []) ?_ rfl ?_
  · exact cons_eq rfl (cons_eq rfl (cons_eq rfl (cons_eq (slot_eq (I_eq (by rw [List.drop_length]; rfl))) (cons_eq (slot_eq (I_eq (by
      show isub .i64 ((D.map natRow).length : Int) (Int.ofNat 1) = _
      rw [List.length_map, ofn, isub64 (by omega) (by omega)]; rfl))) rfl))))
  refine vloop_by (σ := { j : Nat // j ≤ D.length ∧ (j = D.length ∨ b ≤ (j : Int)) }) (fun j => [(0, .d (.sl 1 (D.map natRow))), (1, I b), (4, I (Int.ofNat 0)), (5, I ((capM (valR (D.drop j.1)) : Nat) : Int)), (6, I ((j.1 : Int) - 1))]) (fun _ => []) (fun j => j.1) ?_ ⟨D.length, Nat.le_refl _, .inl rfl⟩
  rintro ⟨j, hj, hjb⟩
  conv => whnf
  by_cases hgo : 1 ≤ j ∧ b ≤ (j : Int) - 1
  · have q1 : ile (Int.ofNat 0) ((j : Int) - 1) = true := by rw [ile_t, ofn]; omega
    have q2 : ile b ((j : Int) - 1) = true := by rw [ile_t]; omega
    obtain ⟨i, rfl⟩ : ∃ i, j = i + 1 := ⟨j - 1, by omega⟩
    have ei : ((i + 1 : Nat) : Int) - 1 = (i : Int) := by omega
    obtain ⟨c, hc⟩ : ∃ c, D[i]? = some c := ⟨D[i], List.getElem?_eq_getElem (by omega)⟩
    have hr : iget (D.map natRow) (((i + 1 : Nat) : Int) - 1) = some (natRow c) := by rw [ei]; exact nat_row D i hc
    have hc9 := hd c (List.mem_of_getElem? hc)
    have hval : valR (D.drop i) = 10 * valR (D.drop (i + 1)) + c := by
      rw [List.drop_eq_getElem_cons (by omega), (List.getElem?_eq_some_iff.1 hc).2]
      simp only [valR]; omega
    have hcap : capM (valR (D.drop (i + 1))) ≤ 68719476737 := by unfold capM; omega
    repeat' ((first | refine vb_t rfl ?_ | refine vb_f rfl ?_ | refine vb_t (by assumption) ?_ | refine vb_f (by assumption) ?_ | refine vo_i hr ?_ | refine vor_l ?_ | fail) <;> conv => whnf)
    refine ⟨⟨i, by omega, .inr (by omega)⟩, by simp only; omega, cons_eq rfl (cons_eq rfl (cons_eq rfl (cons_eq (slot_eq (I_eq ?_)) (cons_eq (slot_eq (I_eq (show isub .i64 (((i + 1 : Nat) : Int) - 1) (Int.ofNat 1) = (i : Int) - 1 from by rw [isub1 (by omega)]; omega))) rfl)))), rfl, rfl, rfl⟩
    show imin (Int.ofNat 68719476737) (iadd .i64 (imul .i64 (Int.ofNat 10) ((capM (valR (D.drop (i + 1))) : Nat) : Int)) (c : Int)) = ((capM (valR (D.drop i)) : Nat) : Int)
    rw [hval, ← capM_step]
    generalize capM (valR (D.drop (i + 1))) = n at *
    rw [ofn, ofn, imul64 (by omega) (by omega), iadd64 (by omega) (by omega), imin_d]
    split <;> omega
  · have hY : capM (valR (D.drop j)) = capM (valR D / 10 ^ b.toNat) := by
      rcases Int.lt_or_le 0 b with hp | hp
      · have hjb2 : (j : Int) ≤ b := by omega
        rcases hjb with h | h
        · rw [h, List.drop_length, valR_over hd (by omega)]; rfl
        · have : b.toNat = j := by omega
          rw [this, valR_drop _ _ hd]
      · have h0 : j = 0 := by omega
        have h1 : b.toNat = 0 := by omega
        rw [h0, h1]; simp
    have hexit : ∀ (P : Prop), (ile (Int.ofNat 0) ((j : Int) - 1) = false → P) → (ile (Int.ofNat 0) ((j : Int) - 1) = true → ile b ((j : Int) - 1) = false → P) → P := fun P h1 h2 => by
      by_cases h0 : 1 ≤ j
      · exact h2 (by rw [ile_t, ofn]; omega) (by rw [ile_f]; omega)
      · exact h1 (by rw [ile_f, ofn]; omega)
    obtain ⟨Y, hYe⟩ : ∃ Y, valR D / 10 ^ b.toNat = Y := ⟨_, rfl⟩
    rw [hYe] at hY
    have hend : ∀ k : Nat, k = (-b).toNat → rndM (valR D) b = capM (Y * 10 ^ k) + (if 0 < b ∧ b ≤ (D.length : Int) ∧ 5 ≤ (D[b.toNat - 1]?).getD 0 then 1 else 0) := fun k hk => by
      unfold rndM
      by_cases hp : b ≤ 0
      · rw [if_pos hp, if_neg (by omega), ← hk, ← hYe]
        have : b.toNat = 0 := by omega
        rw [this]; simp
      · have hk0 : k = 0 := by omega
        rw [if_neg hp, hYe, hk0, Nat.pow_zero, Nat.mul_one]
        congr 1
        by_cases hbl : b ≤ (D.length : Int)
        · obtain ⟨c, hc⟩ : ∃ c, D[b.toNat - 1]? = some c := ⟨D[b.toNat - 1]'(by omega), List.getElem?_eq_getElem (by omega)⟩
          rw [valR_get hd hc, hc]
          by_cases h5 : 5 ≤ c
          · rw [if_pos h5, if_pos ⟨by omega, hbl, h5⟩]
          · rw [if_neg h5, if_neg (fun h => h5 h.2.2)]
        · rw [valR_over hd (by omega), if_neg (by decide), if_neg (fun h => hbl h.2.1)]
    refine hexit _ (fun q1 => ?_) (fun q1 q2 => ?_)
    all_goals
      repeat' ((first | refine vb_t rfl ?_ | refine vb_f rfl ?_ | refine vb_t (by assumption) ?_ | refine vb_f (by assumption) ?_ | refine vor_l ?_ | fail) <;> conv => whnf)
      refine vloop_eq2 (fr' := [(0, .d (.sl 1 (D.map natRow))), (1, I b), (4, I (Int.ofNat 0)), (5, I ((capM (Y * 10 ^ 0) : Nat) : Int)), (7, I (b + ((0 : Nat) : Int)))]) (h' := []) ?_ rfl ?_
      · exact cons_eq rfl (cons_eq rfl (cons_eq rfl (cons_eq (slot_eq (I_eq (by show ((capM (valR (D.drop j)) : Nat) : Int) = _; rw [hY, Nat.pow_zero, Nat.mul_one]))) (cons_eq (slot_eq (I_eq (by omega))) rfl))))
      refine vloop_by (σ := { k : Nat // k ≤ (-b).toNat }) (fun k => [(0, .d (.sl 1 (D.map natRow))), (1, I b), (4, I (Int.ofNat 0)), (5, I ((capM (Y * 10 ^ k.1) : Nat) : Int)), (7, I (b + (k.1 : Int)))]) (fun _ => []) (fun k => (-b).toNat - k.1) ?_ ⟨0, Nat.zero_le _⟩
      rintro ⟨k, hk⟩
      conv => whnf
      by_cases hk2 : b + (k : Int) < 0
      · have q5 : ilt (b + (k : Int)) (Int.ofNat 0) = true := by rw [ilt_t, ofn]; omega
        have hcap : capM (Y * 10 ^ k) ≤ 68719476737 := by unfold capM; omega
        repeat' ((first | refine vb_t rfl ?_ | refine vb_f rfl ?_ | refine vb_t (by assumption) ?_ | refine vb_f (by assumption) ?_ | refine vor_l ?_ | fail) <;> conv => whnf)
        refine ⟨⟨k + 1, by omega⟩, by simp only; omega, cons_eq rfl (cons_eq rfl (cons_eq rfl (cons_eq (slot_eq (I_eq ?_)) (cons_eq (slot_eq (I_eq ?_)) rfl)))), rfl, rfl, rfl⟩
        · show imin (Int.ofNat 68719476737) (imul .i64 (Int.ofNat 10) ((capM (Y * 10 ^ k) : Nat) : Int)) = ((capM (Y * 10 ^ (k + 1)) : Nat) : Int)
          have e : Y * 10 ^ (k + 1) = 10 * (Y * 10 ^ k) + 0 := by rw [Nat.pow_succ, ← Nat.mul_assoc, Nat.mul_comm]; rfl
          rw [e, ← capM_step]
          generalize capM (Y * 10 ^ k) = n at *
          rw [ofn, ofn, imul64 (by omega) (by omega), imin_d]
          split <;> omega
        · show iadd .i64 (b + (k : Int)) (Int.ofNat 1) = b + ((k + 1 : Nat) : Int)
          rw [ofn, iadd64 (by omega) (by omega)]; omega
      · have q5 : ilt (b + (k : Int)) (Int.ofNat 0) = false := by rw [ilt_f, ofn]; omega
        rw [hend k (by omega)]
        obtain ⟨n, hn⟩ : ∃ n, capM (Y * 10 ^ k) = n := ⟨_, rfl⟩
        have hcap : n ≤ 68719476737 := by rw [← hn]; unfold capM; omega
        by_cases hp : 0 < b
        · have q6 : ilt (Int.ofNat 0) b = true := by rw [ilt_t, ofn]; omega
          by_cases hbl : b ≤ (D.length : Int)
          · have q7 : ile b ((D.map natRow).length : Int) = true := by rw [ile_t, List.length_map]; exact hbl
            obtain ⟨c, hc⟩ : ∃ c, D[b.toNat - 1]? = some c := ⟨D[b.toNat - 1]'(by omega), List.getElem?_eq_getElem (by omega)⟩
            have hb1 : isub .i64 b (Int.ofNat 1) = ((b.toNat - 1 : Nat) : Int) := by rw [ofn, isub64 (by omega) (by omega)]; omega
            have hr : iget (D.map natRow) (isub .i64 b (Int.ofNat 1)) = some (natRow c) := by rw [hb1]; exact nat_row D _ hc
            rw [hc]
            by_cases h5 : 5 ≤ c
            · have q8 : ile (Int.ofNat 5) (c : Int) = true := by rw [ile_t, ofn]; omega
              rw [if_pos ⟨hp, hbl, h5⟩]
              repeat' ((first | refine vb_t rfl ?_ | refine vb_f rfl ?_ | refine vb_t (by assumption) ?_ | refine vb_f (by assumption) ?_ | refine vo_i hr ?_ | refine vor_l ?_ | fail) <;> conv => whnf)
              exact ⟨congrArg CR.ret (I_eq (by show iadd .i64 ((capM (Y * 10 ^ k) : Nat) : Int) (Int.ofNat 1) = _; rw [hn]; exact iadd_one (by omega))), rfl⟩
            · have q8 : ile (Int.ofNat 5) (c : Int) = false := by rw [ile_f, ofn]; omega
              rw [if_neg (fun h => h5 h.2.2)]
              repeat' ((first | refine vb_t rfl ?_ | refine vb_f rfl ?_ | refine vb_t (by assumption) ?_ | refine vb_f (by assumption) ?_ | refine vo_i hr ?_ | refine vor_l ?_ | fail) <;> conv => whnf)
              exact ⟨rfl, rfl⟩
          · have q7 : ile b ((D.map natRow).length : Int) = false := by rw [ile_f, List.length_map]; omega
            rw [if_neg (fun h => hbl h.2.1)]
            repeat' ((first | refine vb_t rfl ?_ | refine vb_f rfl ?_ | refine vb_t (by assumption) ?_ | refine vb_f (by assumption) ?_ | refine vor_l ?_ | fail) <;> conv => whnf)
            exact ⟨rfl, rfl⟩
        · have q6 : ilt (Int.ofNat 0) b = false := by rw [ilt_f, ofn]; omega
          rw [if_neg (fun h => hp h.1)]
          repeat' ((first | refine vb_t rfl ?_ | refine vb_f rfl ?_ | refine vb_t (by assumption) ?_ | refine vb_f (by assumption) ?_ | refine vor_l ?_ | fail) <;> conv => whnf)
          exact ⟨rfl, rfl⟩
end Go.Proofs.YtjeblkicgmmhiaaGreatDoor.Ab
namespace Go.Proofs.YtjeblkicgmmhiaaGreatDoor.Ab
open Go
set_option linter.unusedSimpArgs false
set_option maxRecDepth 100000
set_option linter.unusedVariables false
set_option maxHeartbeats 4000000
theorem digs_get {s : List UInt8} {i j : Nat} (h : j < digN s i) : (digs s i)[j]? = s[i + j]? := by
  rw [digs_eq, List.getElem?_take, if_pos h, List.getElem?_drop]
theorem dig_at {s : List UInt8} {i j : Nat} {c : UInt8} (h : j < digN s i) (hc : s[i + j]? = some c) : isDig c = true := by
  rw [← digs_get h] at hc
  exact digs_dig s i c (List.mem_of_getElem? hc)
/-- The digits of a number, the first one first. -/
def allD (s : List UInt8) : List UInt8 := digs s (pA s) ++ pP s
theorem allD_len (s : List UInt8) : (allD s).length = digN s (pA s) + (pP s).length := by unfold allD; rw [List.length_append]; rfl
/-- How many digits have been seen behind so many steps. -/
def seen (s : List UInt8) (k : Nat) : Nat := if k ≤ (pP s).length then k else k - 1
/-- The character at a step. -/
theorem at_step {s : List UInt8} {k : Nat} (hk : k ≤ digN s (pA s) + (pP s).length) (hne : k ≠ (pP s).length) :
    (allD s)[(allD s).length - 1 - seen s k]? = s[pA s + digN s (pA s) + (pP s).length - k]? := by
  rw [allD_len]
  unfold allD seen
  split
  · rename_i h
    have hlt : k < (pP s).length := by omega
    have e : digN s (pA s) + (pP s).length - 1 - k = (digs s (pA s)).length + ((pP s).length - 1 - k) := by rw [digs_len]; omega
    rw [e, List.getElem?_append_right (by omega), Nat.add_sub_cancel_left]
    have hd : pDot s = true := by
      cases h : pDot s with
      | true => rfl
      | false =>
        have : pP s = [] := by unfold pP; rw [h]; rfl
        rw [this] at hlt; simp at hlt
    have hP : pP s = digs s (pW s + 1) := by unfold pP; rw [if_pos hd]
    have hPl : (pP s).length = digN s (pW s + 1) := by rw [hP]; rfl
    have e2 : pA s + digN s (pA s) + (pP s).length - k = pW s + 1 + ((pP s).length - 1 - k) := by unfold pW; omega
    rw [e2, ← digs_get (by omega), ← hP]
  · rename_i h
    have e : digN s (pA s) + (pP s).length - 1 - (k - 1) = digN s (pA s) + (pP s).length - k := by omega
    have e2 : pA s + digN s (pA s) + (pP s).length - k = pA s + (digN s (pA s) + (pP s).length - k) := by omega
    rw [e, e2, List.getElem?_append_left (by rw [digs_len]; omega), digs_get (by omega)]
def lastD (s : List UInt8) (m : Nat) : List Nat := ((((allD s).map dgt).drop ((allD s).length - m)).map UInt8.toNat).reverse
theorem lastD_zero (s : List UInt8) : lastD s 0 = [] := by unfold lastD; simp
theorem lastD_succ {s : List UInt8} {m : Nat} {c : UInt8} (hm : m < (allD s).length) (hc : (allD s)[(allD s).length - 1 - m]? = some c) : lastD s (m + 1) = lastD s m ++ [(dgt c).toNat] := by
  have hl : (allD s).length - (m + 1) < ((allD s).map dgt).length := by rw [List.length_map]; omega
  have e : (allD s).length - (m + 1) = (allD s).length - 1 - m := by omega
  unfold lastD
  rw [List.drop_eq_getElem_cons hl, List.map_cons, List.reverse_cons]
  congr 1
  · congr 3; omega
  · congr 1
    rw [List.getElem_map]
    congr 2
    have h2 := (List.getElem?_eq_some_iff.1 hc).2
    rw [← h2]; congr 1
theorem lastD_all (s : List UInt8) : lastD s (allD s).length = (((allD s).map dgt).map UInt8.toNat).reverse := by unfold lastD; rw [Nat.sub_self, List.drop_zero]
theorem allD_dig (s : List UInt8) : ∀ c ∈ allD s, isDig c = true := fun c hc => by
  rcases List.mem_append.1 hc with hc | hc
  · exact digs_dig _ _ c hc
  · exact pP_dig _ c hc
theorem lastD_digR (s : List UInt8) (m : Nat) : digR (lastD s m) := fun c hc => by
  unfold lastD at hc
  rw [List.mem_reverse] at hc
  obtain ⟨x, hx, rfl⟩ := List.mem_map.1 hc
  have hx2 := List.mem_of_mem_drop hx
  obtain ⟨y, hy, rfl⟩ := List.mem_map.1 hx2
  exact dgt_le (allD_dig s y hy)
theorem dgt_val {c : UInt8} (h : isDig c = true) : icast .i64 (isub .u8 (c.toNat : Int) (Int.ofNat 48)) = ((dgt c).toNat : Int) := by
  have h2 := c.toNat_lt
  rw [isub_dig h, icast64 (by omega) (by omega)]
  unfold dgt
  rw [of_dig (by omega)]
/-- The exponent, as the reference reads it. -/
theorem rexp_num (s : List UInt8) (hs : s.length ≤ 1000000) (hstop : (numP s).stop = s.length) (hb : ¬ (digs s (pA s) = [] ∧ pP s = [])) :
    Pur F0 127 [S s, I (rpX s : Int)] [] .no (.ret (I (expV (numP s).exp))) .no := by
  by_cases h : pIsE s = true ∧ digs s (pX s) ≠ []
  · have hn := numP_e hb h.1 h.2
    have hX : rpX s = pE s + 1 := by unfold rpX; rw [if_pos h]
    have hst : pX s + digN s (pX s) = s.length := by rw [hn] at hstop; exact hstop
    have hx : (numP s).exp = s.drop (pE s + 1) := by rw [hn]; show (s.take (pX s + digN s (pX s))).drop (pE s + 1) = _; rw [hst, List.take_length]
    have hne : digN s (pX s) ≠ 0 := fun e => h.2 (List.length_eq_zero_iff.1 (by rw [digs_len]; exact e))
    have hXs : pX s = pE s + 1 + sgn1 s (pE s + 1) := by unfold pX; rw [← sgnN_1]
    rw [hX, hx]
    refine rexp_ok s (pE s + 1) (by omega) (by omega) hs fun j c hj hc => ?_
    have hjl := (List.getElem?_eq_some_iff.1 hc).1
    obtain ⟨d, rfl⟩ : ∃ d, j = pX s + d := ⟨j - pX s, by omega⟩
    exact dig_at (by omega) hc
  · have hX : rpX s = 0 := by unfold rpX; rw [if_neg h]
    have hx : (numP s).exp = [] := by
      unfold numP; rw [if_neg hb, if_neg h]
    rw [hX, hx]
    exact rexp0_ok s
theorem numP_w {s : List UInt8} (hb : ¬ (digs s (pA s) = [] ∧ pP s = [])) : (numP s).whole = digs s (pA s) ∧ (numP s).part = pP s ∧ (numP s).below = sgnB s 0 := by
  unfold numP; rw [if_neg hb]; split <;> exact ⟨rfl, rfl, rfl⟩
theorem seen_at {s : List UInt8} : seen s ((pP s).length + 1) = seen s (pP s).length := by unfold seen; rw [if_neg (by omega), if_pos (Nat.le_refl _)]; omega
theorem seen_succ {s : List UInt8} {k : Nat} (h : k ≠ (pP s).length) : seen s (k + 1) = seen s k + 1 := by unfold seen; split <;> split <;> omega
theorem seen_lt {s : List UInt8} {k : Nat} (hk : k ≤ digN s (pA s) + (pP s).length) (h : k ≠ (pP s).length) : seen s k < (allD s).length := by rw [allD_len]; unfold seen; split <;> omega
theorem seen_end (s : List UInt8) : seen s (digN s (pA s) + (pP s).length + 1) = (allD s).length := by rw [allD_len]; unfold seen; rw [if_neg (by omega)]; omega
theorem rvalue_ok (s : List UInt8) (sc : Nat) (hsc : sc = 1 ∨ sc = 64 ∨ sc = 1000) (hs : s.length ≤ 100000) : Pur F0 87 [S s, I (sc : Int)] [] .no (.ret (.tup [I (numV s sc).1, I (numV s sc).2])) .no := by
  obtain ⟨V, hV⟩ : ∃ V, numV s sc = V := ⟨_, rfl⟩
  rw [hV]
  unfold numV at hV
  have hsc0 : (ieq (sc : Int) (Int.ofNat 1) = true) ∨ (ieq (sc : Int) (Int.ofNat 1) = false ∧ ((ieq (sc : Int) (Int.ofNat 64) = true) ∨ (ieq (sc : Int) (Int.ofNat 64) = false ∧ ieq (sc : Int) (Int.ofNat 1000) = true))) := by
    simp only [ieq_t, ieq_f, ofn]
    omega
  have hn1 : ∀ b : Bool, b = true → (!b) = false := fun b h => by rw [h]; rfl
  have hn2 : ∀ b : Bool, b = false → (!b) = true := fun b h => by rw [h]; rfl
  have hT0 := rparts_ok s hs
  by_cases hb : digs s (pA s) = [] ∧ pP s = []
  · have hT : rpT s = [I 0, I 0, I 0, I 0, I 0] := by unfold rpT; rw [if_pos hb]
    have h0 : (numP s).stop = 0 := by unfold numP; rw [if_pos hb]
    rw [hT] at hT0
    rw [if_pos (.inl h0)] at hV
    subst hV
    have qz : ieq (0 : Int) (Int.ofNat 0) = true := by rw [ieq_t]; rfl
    refine pur_code code87_ok ?_
    conv => whnf
    rcases hsc0 with q1 | ⟨q1, q2 | ⟨q2, q3⟩⟩
    · have q1' := hn1 _ q1
      repeat' ((first | refine vb_t rfl ?_ | refine vb_f rfl ?_ | refine vb_t (by assumption) ?_ | refine vb_f (by assumption) ?_ | refine vpur_i hT0 ?_ | refine vor_l ?_ | fail) <;> conv => whnf)
      exact ⟨rfl, rfl⟩
    · have q1' := hn2 _ q1
      have q2' := hn1 _ q2
      repeat' ((first | refine vb_t rfl ?_ | refine vb_f rfl ?_ | refine vb_t (by assumption) ?_ | refine vb_f (by assumption) ?_ | refine vpur_i hT0 ?_ | refine vor_l ?_ | fail) <;> conv => whnf)
      exact ⟨rfl, rfl⟩
    · have q1' := hn2 _ q1
      have q2' := hn2 _ q2
      have q3' := hn1 _ q3
      repeat' ((first | refine vb_t rfl ?_ | refine vb_f rfl ?_ | refine vb_t (by assumption) ?_ | refine vb_f (by assumption) ?_ | refine vpur_i hT0 ?_ | refine vor_l ?_ | fail) <;> conv => whnf)
      exact ⟨rfl, rfl⟩
  have hT : rpT s = [I (pA s : Int), I (digN s (pA s) : Int), I ((pP s).length : Int), I (rpX s : Int), I ((numP s).stop : Int)] := by unfold rpT; rw [if_neg hb]
  rw [hT] at hT0
  refine pur_code code87_ok ?_
  conv => whnf
  rcases hsc0 with q1 | ⟨q1, q2 | ⟨q2, q3⟩⟩
  · have q1' := hn1 _ q1
    repeat' ((first | refine vb_t rfl ?_ | refine vb_f rfl ?_ | refine vb_t (by assumption) ?_ | refine vb_f (by assumption) ?_ | refine vor_l ?_ | fail) <;> conv => whnf)
    by_cases h0 : (numP s).stop = 0
    · have q2 : ieq ((numP s).stop : Int) (Int.ofNat 0) = true := by rw [ieq_t, h0]; rfl
      rw [if_pos (.inl h0)] at hV
      subst hV
      repeat' ((first | refine vb_t rfl ?_ | refine vb_f rfl ?_ | refine vb_t (by assumption) ?_ | refine vb_f (by assumption) ?_ | refine vpur_i hT0 ?_ | refine vor_l ?_ | fail) <;> conv => whnf)
      exact ⟨rfl, rfl⟩
    have q2 : ieq ((numP s).stop : Int) (Int.ofNat 0) = false := by rw [ieq_f, ofn]; omega
    by_cases h1 : (numP s).stop = s.length
    case neg =>
      have q3 : (!ieq ((numP s).stop : Int) (s.length : Int)) = true := hn2 _ (by rw [ieq_f]; omega)
      rw [if_pos (.inr (.inl h1))] at hV
      subst hV
      repeat' ((first | refine vb_t rfl ?_ | refine vb_f rfl ?_ | refine vb_t (by assumption) ?_ | refine vb_f (by assumption) ?_ | refine vpur_i hT0 ?_ | refine vor_l ?_ | fail) <;> conv => whnf)
      exact ⟨rfl, rfl⟩
    have q3 : (!ieq ((numP s).stop : Int) (s.length : Int)) = false := hn1 _ (by rw [ieq_t, h1])
    by_cases h2 : 300 < s.length
    · have q4 : ilt (Int.ofNat 300) (s.length : Int) = true := by rw [ilt_t, ofn]; omega
      rw [if_pos (.inr (.inr h2))] at hV
      subst hV
      repeat' ((first | refine vb_t rfl ?_ | refine vb_f rfl ?_ | refine vb_t (by assumption) ?_ | refine vb_f (by assumption) ?_ | refine vpur_i hT0 ?_ | refine vor_l ?_ | fail) <;> conv => whnf)
      exact ⟨rfl, rfl⟩
    have q4 : ilt (Int.ofNat 300) (s.length : Int) = false := by rw [ilt_f, ofn]; omega
    rw [if_neg (by omega)] at hV
    repeat' ((first | refine vb_t rfl ?_ | refine vb_f rfl ?_ | refine vb_t (by assumption) ?_ | refine vb_f (by assumption) ?_ | refine vpur_i hT0 ?_ | refine vor_l ?_ | fail) <;> conv => whnf)
    have hA : pA s ≤ 1 := by unfold pA sgnN; split <;> omega
    have hW : digN s (pA s) ≤ s.length := by have := digs_le2 s (pA s); rw [digs_len] at this; exact this
    have hP := pP_le s
    have e1 : iadd .i64 (pA s : Int) (digN s (pA s) : Int) = ((pA s + digN s (pA s) : Nat) : Int) := iaddN (by omega)
    have e2 : iadd .i64 (iadd .i64 (pA s : Int) (digN s (pA s) : Int)) ((pP s).length : Int) = ((pA s + digN s (pA s) + (pP s).length : Nat) : Int) := by rw [e1, iaddN (by omega)]
    obtain ⟨N, hN⟩ : ∃ N, pA s + digN s (pA s) + (pP s).length = N := ⟨_, rfl⟩
    rw [hN] at e2
    refine vloop_eq2 (fr' := [(0, S s), (1, I (sc : Int)), (4, I (Int.ofNat 0)), (5, I (Int.ofNat 0)), (6, I (pA s : Int)), (7, I (digN s (pA s) : Int)), (8, I ((pP s).length : Int)), (9, I (rpX s : Int)), (11, natsV none), (12, I ((N : Int) - ((0 : Nat) : Int)))]) (h' := natsH .mine 3 none) ?_ rfl ?_
    · exact cons_eq rfl (cons_eq rfl (cons_eq rfl (cons_eq rfl (cons_eq rfl (cons_eq rfl (cons_eq rfl (cons_eq rfl (cons_eq rfl (cons_eq (slot_eq (I_eq (e2.trans (by omega)))) rfl)))))))))
    refine vloop_by (σ := { x : Nat × Option (Nat × List Nat) // x.1 ≤ digN s (pA s) + (pP s).length + 1 ∧ nats x.2 = lastD s (seen s x.1) })
      (fun x => [(0, S s), (1, I (sc : Int)), (4, I (Int.ofNat 0)), (5, I (Int.ofNat 0)), (6, I (pA s : Int)), (7, I (digN s (pA s) : Int)), (8, I ((pP s).length : Int)), (9, I (rpX s : Int)), (11, natsV x.1.2), (12, I ((N : Int) - (x.1.1 : Int)))])
      (fun x => natsH .mine 3 x.1.2) (fun x => digN s (pA s) + (pP s).length + 1 - x.1.1) ?_ ⟨(0, none), Nat.zero_le _, by
        have : seen s 0 = 0 := by unfold seen; rw [if_pos (Nat.zero_le _)]
        show [] = lastD s (seen s 0)
        rw [this, lastD_zero]⟩
    rintro ⟨⟨k, x⟩, hk, hx⟩
    simp only at hk hx
    have hdown : isub .i64 ((N : Int) - (k : Int)) (Int.ofNat 1) = (N : Int) - ((k + 1 : Nat) : Int) := by rw [ofn, isub64 (by omega) (by omega)]; omega
    by_cases hkle : k ≤ digN s (pA s) + (pP s).length
    · rcases x with _ | ⟨g, l⟩
      · conv => whnf
        by_cases hkP : k = (pP s).length
        · have hik : (N : Int) - (k : Int) = ((pA s + digN s (pA s) : Nat) : Int) := by omega
          have q1 : ile (pA s : Int) ((N : Int) - (k : Int)) = true := by rw [ile_t]; omega
          have q4 : ilt ((N : Int) - (k : Int)) (iadd .i64 (pA s : Int) (digN s (pA s) : Int)) = false := by rw [e1, ilt_f]; omega
          have q5 : ilt (iadd .i64 (pA s : Int) (digN s (pA s) : Int)) ((N : Int) - (k : Int)) = false := by rw [e1, ilt_f]; omega
          have hx2 : nats (none) = lastD s (seen s (k + 1)) := by rw [hkP, seen_at, ← hkP]; exact hx
          by_cases hil : pA s + digN s (pA s) < s.length
          · have q2 : ilt ((N : Int) - (k : Int)) (s.length : Int) = true := by rw [ilt_t]; omega
            obtain ⟨c, hc⟩ : ∃ c, s[pA s + digN s (pA s)]? = some c := ⟨s[pA s + digN s (pA s)], List.getElem?_eq_getElem hil⟩
            have hg : iget s ((N : Int) - (k : Int)) = some c := by rw [hik]; exact iget_t hc
            cases hcd : isDig c with
            | true =>
              have hdg := rdigit_ok c
              rw [hcd] at hdg
              repeat' ((first | refine vb_t rfl ?_ | refine vb_f rfl ?_ | refine vb_t (by assumption) ?_ | refine vb_f (by assumption) ?_ | refine vo_i hg ?_ | refine vpur_i hdg ?_ | refine vor_l ?_ | fail) <;> conv => whnf)
              exact ⟨⟨(k + 1, none), by simp only; omega, hx2⟩, by simp only; omega, cons_eq rfl (cons_eq rfl (cons_eq rfl (cons_eq rfl (cons_eq rfl (cons_eq rfl (cons_eq rfl (cons_eq rfl (cons_eq rfl (cons_eq (slot_eq (I_eq hdown)) rfl))))))))), rfl, rfl, rfl⟩
            | false =>
              have hdg := rdigit_ok c
              rw [hcd] at hdg
              repeat' ((first | refine vb_t rfl ?_ | refine vb_f rfl ?_ | refine vb_t (by assumption) ?_ | refine vb_f (by assumption) ?_ | refine vo_i hg ?_ | refine vpur_i hdg ?_ | refine vor_l ?_ | fail) <;> conv => whnf)
              exact ⟨⟨(k + 1, none), by simp only; omega, hx2⟩, by simp only; omega, cons_eq rfl (cons_eq rfl (cons_eq rfl (cons_eq rfl (cons_eq rfl (cons_eq rfl (cons_eq rfl (cons_eq rfl (cons_eq rfl (cons_eq (slot_eq (I_eq hdown)) rfl))))))))), rfl, rfl, rfl⟩
          · have q2 : ilt ((N : Int) - (k : Int)) (s.length : Int) = false := by rw [ilt_f]; omega
            repeat' ((first | refine vb_t rfl ?_ | refine vb_f rfl ?_ | refine vb_t (by assumption) ?_ | refine vb_f (by assumption) ?_ | refine vor_l ?_ | fail) <;> conv => whnf)
            exact ⟨⟨(k + 1, none), by simp only; omega, hx2⟩, by simp only; omega, cons_eq rfl (cons_eq rfl (cons_eq rfl (cons_eq rfl (cons_eq rfl (cons_eq rfl (cons_eq rfl (cons_eq rfl (cons_eq rfl (cons_eq (slot_eq (I_eq hdown)) rfl))))))))), rfl, rfl, rfl⟩
        have hat := at_step hkle hkP
        have hsl := seen_lt hkle hkP
        obtain ⟨c, hc⟩ : ∃ c, (allD s)[(allD s).length - 1 - seen s k]? = some c := ⟨(allD s)[(allD s).length - 1 - seen s k]'(by omega), List.getElem?_eq_getElem (by omega)⟩
        have hla := lastD_succ hsl hc
        rw [← seen_succ hkP] at hla
        rw [hat] at hc
        have hcd := allD_dig s c (List.mem_of_getElem? (hat.trans hc))
        have hdg := rdigit_ok c
        rw [hcd] at hdg
        have hil := (List.getElem?_eq_some_iff.1 hc).1
        have hik : (N : Int) - (k : Int) = ((pA s + digN s (pA s) + (pP s).length - k : Nat) : Int) := by omega
        have hg : iget s ((N : Int) - (k : Int)) = some c := by rw [hik]; exact iget_t hc
        have q1 : ile (pA s : Int) ((N : Int) - (k : Int)) = true := by rw [ile_t]; omega
        have q2 : ilt ((N : Int) - (k : Int)) (s.length : Int) = true := by rw [ilt_t]; omega
        have q7 : ile ((N : Int) - (k : Int)) (iadd .i64 (iadd .i64 (pA s : Int) (digN s (pA s) : Int)) ((pP s).length : Int)) = true := by rw [e2, ile_t]; omega
        have hnx : nats (some (0, [(dgt c).toNat])) = lastD s (seen s (k + 1)) := by rw [hla, ← hx]; rfl
        have hq4 : (ilt ((N : Int) - (k : Int)) (iadd .i64 (pA s : Int) (digN s (pA s) : Int)) = true) ∨ (ilt ((N : Int) - (k : Int)) (iadd .i64 (pA s : Int) (digN s (pA s) : Int)) = false ∧ ilt (iadd .i64 (pA s : Int) (digN s (pA s) : Int)) ((N : Int) - (k : Int)) = true) := by
          rw [e1, ilt_t, ilt_t, ilt_f]; omega
        rcases hq4 with q4 | ⟨q4, q5⟩
        · repeat' ((first | refine vb_t rfl ?_ | refine vb_f rfl ?_ | refine vb_t (by assumption) ?_ | refine vb_f (by assumption) ?_ | refine vo_i hg ?_ | refine vpur_i hdg ?_ | refine vb_t (room_t (by simp <;> omega)) ?_ | refine vor_l ?_ | fail) <;> conv => whnf)
          exact ⟨⟨(k + 1, some (0, [(dgt c).toNat])), by simp only; omega, hnx⟩, by simp only; omega, cons_eq rfl (cons_eq rfl (cons_eq rfl (cons_eq rfl (cons_eq rfl (cons_eq rfl (cons_eq rfl (cons_eq rfl (cons_eq rfl (cons_eq (slot_eq (I_eq hdown)) rfl))))))))), cons_eq (arr_eq (map_snoc [] _ _ (dgt_val hcd))) rfl, rfl, rfl⟩
        · repeat' ((first | refine vb_t rfl ?_ | refine vb_f rfl ?_ | refine vb_t (by assumption) ?_ | refine vb_f (by assumption) ?_ | refine vo_i hg ?_ | refine vpur_i hdg ?_ | refine vb_t (room_t (by simp <;> omega)) ?_ | refine vor_l ?_ | fail) <;> conv => whnf)
          exact ⟨⟨(k + 1, some (0, [(dgt c).toNat])), by simp only; omega, hnx⟩, by simp only; omega, cons_eq rfl (cons_eq rfl (cons_eq rfl (cons_eq rfl (cons_eq rfl (cons_eq rfl (cons_eq rfl (cons_eq rfl (cons_eq rfl (cons_eq (slot_eq (I_eq hdown)) rfl))))))))), cons_eq (arr_eq (map_snoc [] _ _ (dgt_val hcd))) rfl, rfl, rfl⟩
      · have hll : l.length ≤ 100000 := by
          have h3 := congrArg List.length hx
          have h4 : (lastD s (seen s k)).length ≤ (allD s).length := by unfold lastD; simp
          rw [allD_len] at h4
          change l.length = _ at h3
          omega
        have hq : ieq (l.length : Int) ((l.map natRow).length : Int) = true := by rw [ieq_t]; simp
        have hgg : Nat.beq g g = true := by simp
        conv => whnf
        by_cases hkP : k = (pP s).length
        · have hik : (N : Int) - (k : Int) = ((pA s + digN s (pA s) : Nat) : Int) := by omega
          have q1 : ile (pA s : Int) ((N : Int) - (k : Int)) = true := by rw [ile_t]; omega
          have q4 : ilt ((N : Int) - (k : Int)) (iadd .i64 (pA s : Int) (digN s (pA s) : Int)) = false := by rw [e1, ilt_f]; omega
          have q5 : ilt (iadd .i64 (pA s : Int) (digN s (pA s) : Int)) ((N : Int) - (k : Int)) = false := by rw [e1, ilt_f]; omega
          have hx2 : nats (some (g, l)) = lastD s (seen s (k + 1)) := by rw [hkP, seen_at, ← hkP]; exact hx
          by_cases hil : pA s + digN s (pA s) < s.length
          · have q2 : ilt ((N : Int) - (k : Int)) (s.length : Int) = true := by rw [ilt_t]; omega
            obtain ⟨c, hc⟩ : ∃ c, s[pA s + digN s (pA s)]? = some c := ⟨s[pA s + digN s (pA s)], List.getElem?_eq_getElem hil⟩
            have hg : iget s ((N : Int) - (k : Int)) = some c := by rw [hik]; exact iget_t hc
            cases hcd : isDig c with
            | true =>
              have hdg := rdigit_ok c
              rw [hcd] at hdg
              repeat' ((first | refine vb_t rfl ?_ | refine vb_f rfl ?_ | refine vb_t (by assumption) ?_ | refine vb_f (by assumption) ?_ | refine vo_i hg ?_ | refine vpur_i hdg ?_ | refine vor_l ?_ | fail) <;> conv => whnf)
              exact ⟨⟨(k + 1, some (g, l)), by simp only; omega, hx2⟩, by simp only; omega, cons_eq rfl (cons_eq rfl (cons_eq rfl (cons_eq rfl (cons_eq rfl (cons_eq rfl (cons_eq rfl (cons_eq rfl (cons_eq rfl (cons_eq (slot_eq (I_eq hdown)) rfl))))))))), rfl, rfl, rfl⟩
            | false =>
              have hdg := rdigit_ok c
              rw [hcd] at hdg
              repeat' ((first | refine vb_t rfl ?_ | refine vb_f rfl ?_ | refine vb_t (by assumption) ?_ | refine vb_f (by assumption) ?_ | refine vo_i hg ?_ | refine vpur_i hdg ?_ | refine vor_l ?_ | fail) <;> conv => whnf)
              exact ⟨⟨(k + 1, some (g, l)), by simp only; omega, hx2⟩, by simp only; omega, cons_eq rfl (cons_eq rfl (cons_eq rfl (cons_eq rfl (cons_eq rfl (cons_eq rfl (cons_eq rfl (cons_eq rfl (cons_eq rfl (cons_eq (slot_eq (I_eq hdown)) rfl))))))))), rfl, rfl, rfl⟩
          · have q2 : ilt ((N : Int) - (k : Int)) (s.length : Int) = false := by rw [ilt_f]; omega
            repeat' ((first | refine vb_t rfl ?_ | refine vb_f rfl ?_ | refine vb_t (by assumption) ?_ | refine vb_f (by assumption) ?_ | refine vor_l ?_ | fail) <;> conv => whnf)
            exact ⟨⟨(k + 1, some (g, l)), by simp only; omega, hx2⟩, by simp only; omega, cons_eq rfl (cons_eq rfl (cons_eq rfl (cons_eq rfl (cons_eq rfl (cons_eq rfl (cons_eq rfl (cons_eq rfl (cons_eq rfl (cons_eq (slot_eq (I_eq hdown)) rfl))))))))), rfl, rfl, rfl⟩
        have hat := at_step hkle hkP
        have hsl := seen_lt hkle hkP
        obtain ⟨c, hc⟩ : ∃ c, (allD s)[(allD s).length - 1 - seen s k]? = some c := ⟨(allD s)[(allD s).length - 1 - seen s k]'(by omega), List.getElem?_eq_getElem (by omega)⟩
        have hla := lastD_succ hsl hc
        rw [← seen_succ hkP] at hla
        rw [hat] at hc
        have hcd := allD_dig s c (List.mem_of_getElem? (hat.trans hc))
        have hdg := rdigit_ok c
        rw [hcd] at hdg
        have hil := (List.getElem?_eq_some_iff.1 hc).1
        have hik : (N : Int) - (k : Int) = ((pA s + digN s (pA s) + (pP s).length - k : Nat) : Int) := by omega
        have hg : iget s ((N : Int) - (k : Int)) = some c := by rw [hik]; exact iget_t hc
        have q1 : ile (pA s : Int) ((N : Int) - (k : Int)) = true := by rw [ile_t]; omega
        have q2 : ilt ((N : Int) - (k : Int)) (s.length : Int) = true := by rw [ilt_t]; omega
        have q7 : ile ((N : Int) - (k : Int)) (iadd .i64 (iadd .i64 (pA s : Int) (digN s (pA s) : Int)) ((pP s).length : Int)) = true := by rw [e2, ile_t]; omega
        have hnx : nats (some (g + 1, l ++ [(dgt c).toNat])) = lastD s (seen s (k + 1)) := by rw [hla, ← hx]; rfl
        have hq4 : (ilt ((N : Int) - (k : Int)) (iadd .i64 (pA s : Int) (digN s (pA s) : Int)) = true) ∨ (ilt ((N : Int) - (k : Int)) (iadd .i64 (pA s : Int) (digN s (pA s) : Int)) = false ∧ ilt (iadd .i64 (pA s : Int) (digN s (pA s) : Int)) ((N : Int) - (k : Int)) = true) := by
          rw [e1, ilt_t, ilt_t, ilt_f]; omega
        rcases hq4 with q4 | ⟨q4, q5⟩
        · repeat' ((first | refine vb_t rfl ?_ | refine vb_f rfl ?_ | refine vb_t (by assumption) ?_ | refine vb_f (by assumption) ?_ | refine vo_i hg ?_ | refine vpur_i hdg ?_ | refine vb_t (room_t (by simp <;> omega)) ?_ | refine vor_l ?_ | fail) <;> conv => whnf)
          exact ⟨⟨(k + 1, some (g + 1, l ++ [(dgt c).toNat])), by simp only; omega, hnx⟩, by simp only; omega, cons_eq rfl (cons_eq rfl (cons_eq rfl (cons_eq rfl (cons_eq rfl (cons_eq rfl (cons_eq rfl (cons_eq rfl (cons_eq (slot_eq (osl_eq rfl (by simp))) (cons_eq (slot_eq (I_eq hdown)) rfl))))))))), cons_eq (arr_eq (map_snoc l _ _ (dgt_val hcd))) rfl, rfl, rfl⟩
        · repeat' ((first | refine vb_t rfl ?_ | refine vb_f rfl ?_ | refine vb_t (by assumption) ?_ | refine vb_f (by assumption) ?_ | refine vo_i hg ?_ | refine vpur_i hdg ?_ | refine vb_t (room_t (by simp <;> omega)) ?_ | refine vor_l ?_ | fail) <;> conv => whnf)
          exact ⟨⟨(k + 1, some (g + 1, l ++ [(dgt c).toNat])), by simp only; omega, hnx⟩, by simp only; omega, cons_eq rfl (cons_eq rfl (cons_eq rfl (cons_eq rfl (cons_eq rfl (cons_eq rfl (cons_eq rfl (cons_eq rfl (cons_eq (slot_eq (osl_eq rfl (by simp))) (cons_eq (slot_eq (I_eq hdown)) rfl))))))))), cons_eq (arr_eq (map_snoc l _ _ (dgt_val hcd))) rfl, rfl, rfl⟩
    obtain rfl : k = digN s (pA s) + (pP s).length + 1 := by omega
    rw [seen_end] at hx
    have hne : 0 < (allD s).length := by
      rcases Nat.eq_zero_or_pos (allD s).length with h | h
      · exact (hb (by have h5 := List.length_eq_zero_iff.1 h; unfold allD at h5; exact List.append_eq_nil_iff.1 h5)).elim
      · exact h
    have hlen : (lastD s (allD s).length).length = (allD s).length := by unfold lastD; simp
    have q1 : ile (pA s : Int) ((N : Int) - ((digN s (pA s) + (pP s).length + 1 : Nat) : Int)) = false := by rw [ile_f]; omega
    rcases x with _ | ⟨g, l⟩
    · exfalso
      have h3 := congrArg List.length hx
      rw [hlen] at h3
      change 0 = _ at h3
      omega
    change l = _ at hx
    have hll : l.length = (allD s).length := by rw [hx, hlen]
    have hl0 : l ≠ [] := fun e => by rw [e] at hll; simp at hll; omega
    have hlv : valR l = valD (dgs (numP s)) := by
      obtain ⟨w1, w2, _⟩ := numP_w hb
      rw [hx, lastD_all, valR_rev]
      unfold dgs allD; rw [w1, w2]
    obtain ⟨M, hMS, hM1, hM2, hM3⟩ := rscaled_ok l hl0 (by rw [hx]; exact lastD_digR _ _) (by rw [hll, allD_len]; omega) sc (by omega)
    have hgg : Nat.beq g g = true := by simp
    have he : (l.map natRow).isEmpty = false := by
      cases l with
      | nil => exact (hl0 rfl).elim
      | cons c t => rfl
    have hdr : ((l.map natRow).take l.length).drop 0 = l.map natRow := by rw [List.drop_zero, List.take_of_length_le (by simp)]
    have hE := expD_le (numP s).exp
    have hE2 : -1000 ≤ expV (numP s).exp ∧ expV (numP s).exp ≤ 1000 := by unfold expV; split <;> omega
    have hbe : isub .i64 ((pP s).length : Int) (expV (numP s).exp) = ((numP s).part.length : Int) - expV (numP s).exp := by rw [(numP_w hb).2.1, isub64 (by omega) (by omega)]
    have hpl : (numP s).part.length ≤ s.length := (numP_facts s).2.1
    have hR := rround_ok M hM1 (by omega) (((numP s).part.length : Int) - expV (numP s).exp) (by omega) (by omega)
    rw [hM2, hlv, ← hbe] at hR
    have hX := rexp_num s (by omega) h1 hb
    have hs0 : 0 < s.length := by omega
    obtain ⟨c0, hc0⟩ : ∃ c, s[0]? = some c := ⟨s[0], List.getElem?_eq_getElem hs0⟩
    have hg0 : iget s (Int.ofNat 0) = some c0 := iget_t hc0
    have hbel : (numP s).below = decide (c0 = 45) := by rw [(numP_w hb).2.2]; unfold sgnB; rw [hc0]; simp
    clear hM1 hM2 hlv hT0 hx hlen hll hl0 hne hc0 hdown
    obtain ⟨X, hXe⟩ : ∃ X, valD (dgs (numP s)) * sc = X := ⟨_, rfl⟩
    rw [← hbe, hXe] at hV
    rw [hXe] at hR
    by_cases hM : rndN X (isub .i64 ((pP s).length : Int) (expV (numP s).exp)) ≤ 68719476736
    · have hRe := rndM_eq hM
      rw [hRe] at hR
      rw [if_pos hM] at hV
      obtain ⟨R, hRR⟩ : ∃ R, rndN X (isub .i64 ((pP s).length : Int) (expV (numP s).exp)) = R := ⟨_, rfl⟩
      rw [hRR] at hR hV hM
      have q6 : ilt (Int.ofNat 68719476736) (R : Int) = false := by rw [ilt_f, ofn]; omega
      by_cases h45 : c0 = 45
      · have q5 : ieq (c0.toNat : Int) (Int.ofNat 45) = true := ieq_c 45 rfl h45
        rw [hbel, decide_eq_true h45, if_pos rfl] at hV
        subst hV
        conv => whnf
        repeat' ((first | refine vb_t rfl ?_ | refine vb_f rfl ?_ | refine vb_t (by assumption) ?_ | refine vb_f (by assumption) ?_ | (rw [hdr]) | refine vpur_i hMS ?_ | refine vpur_i hX ?_ | refine vpur_i hR ?_ | refine vo_i hg0 ?_ | refine vor_l ?_ | fail) <;> conv => whnf)
        refine ⟨congrArg CR.ret ?_, rfl⟩
        show AV.tup [I (isub .i64 (Int.ofNat 0) (R : Int)), I 0] = .tup [I (-(R : Int)), I 0]
        rw [ofn, isub64 (by omega) (by omega), Int.natCast_zero, Int.zero_sub]
      · have q5 : ieq (c0.toNat : Int) (Int.ofNat 45) = false := ieq_nc 45 rfl h45
        rw [hbel, decide_eq_false h45, if_neg (by decide)] at hV
        subst hV
        conv => whnf
        repeat' ((first | refine vb_t rfl ?_ | refine vb_f rfl ?_ | refine vb_t (by assumption) ?_ | refine vb_f (by assumption) ?_ | (rw [hdr]) | refine vpur_i hMS ?_ | refine vpur_i hX ?_ | refine vpur_i hR ?_ | refine vo_i hg0 ?_ | refine vor_l ?_ | fail) <;> conv => whnf)
        exact ⟨rfl, rfl⟩
    · rw [if_neg hM] at hV
      subst hV
      rw [← rndM_le] at hM
      obtain ⟨R, hRR⟩ : ∃ R, rndM X (isub .i64 ((pP s).length : Int) (expV (numP s).exp)) = R := ⟨_, rfl⟩
      rw [hRR] at hR hM
      have q6 : ilt (Int.ofNat 68719476736) (R : Int) = true := by rw [ilt_t, ofn]; omega
      conv => whnf
      repeat' ((first | refine vb_t rfl ?_ | refine vb_f rfl ?_ | refine vb_t (by assumption) ?_ | refine vb_f (by assumption) ?_ | (rw [hdr]) | refine vpur_i hMS ?_ | refine vpur_i hX ?_ | refine vpur_i hR ?_ | refine vo_i hg0 ?_ | refine vor_l ?_ | fail) <;> conv => whnf)
      exact ⟨rfl, rfl⟩
  · have q1' := hn2 _ q1
    have q2' := hn1 _ q2
    clear q1 q2
    repeat' ((first | refine vb_t rfl ?_ | refine vb_f rfl ?_ | refine vb_t (by assumption) ?_ | refine vb_f (by assumption) ?_ | refine vor_l ?_ | fail) <;> conv => whnf)
    by_cases h0 : (numP s).stop = 0
    · have q2 : ieq ((numP s).stop : Int) (Int.ofNat 0) = true := by rw [ieq_t, h0]; rfl
      rw [if_pos (.inl h0)] at hV
      subst hV
      repeat' ((first | refine vb_t rfl ?_ | refine vb_f rfl ?_ | refine vb_t (by assumption) ?_ | refine vb_f (by assumption) ?_ | refine vpur_i hT0 ?_ | refine vor_l ?_ | fail) <;> conv => whnf)
      exact ⟨rfl, rfl⟩
    have q2 : ieq ((numP s).stop : Int) (Int.ofNat 0) = false := by rw [ieq_f, ofn]; omega
    by_cases h1 : (numP s).stop = s.length
    case neg =>
      have q3 : (!ieq ((numP s).stop : Int) (s.length : Int)) = true := hn2 _ (by rw [ieq_f]; omega)
      rw [if_pos (.inr (.inl h1))] at hV
      subst hV
      repeat' ((first | refine vb_t rfl ?_ | refine vb_f rfl ?_ | refine vb_t (by assumption) ?_ | refine vb_f (by assumption) ?_ | refine vpur_i hT0 ?_ | refine vor_l ?_ | fail) <;> conv => whnf)
      exact ⟨rfl, rfl⟩
    have q3 : (!ieq ((numP s).stop : Int) (s.length : Int)) = false := hn1 _ (by rw [ieq_t, h1])
    by_cases h2 : 300 < s.length
    · have q4 : ilt (Int.ofNat 300) (s.length : Int) = true := by rw [ilt_t, ofn]; omega
      rw [if_pos (.inr (.inr h2))] at hV
      subst hV
      repeat' ((first | refine vb_t rfl ?_ | refine vb_f rfl ?_ | refine vb_t (by assumption) ?_ | refine vb_f (by assumption) ?_ | refine vpur_i hT0 ?_ | refine vor_l ?_ | fail) <;> conv => whnf)
      exact ⟨rfl, rfl⟩
    have q4 : ilt (Int.ofNat 300) (s.length : Int) = false := by rw [ilt_f, ofn]; omega
    rw [if_neg (by omega)] at hV
    repeat' ((first | refine vb_t rfl ?_ | refine vb_f rfl ?_ | refine vb_t (by assumption) ?_ | refine vb_f (by assumption) ?_ | refine vpur_i hT0 ?_ | refine vor_l ?_ | fail) <;> conv => whnf)
    have hA : pA s ≤ 1 := by unfold pA sgnN; split <;> omega
    have hW : digN s (pA s) ≤ s.length := by have := digs_le2 s (pA s); rw [digs_len] at this; exact this
    have hP := pP_le s
    have e1 : iadd .i64 (pA s : Int) (digN s (pA s) : Int) = ((pA s + digN s (pA s) : Nat) : Int) := iaddN (by omega)
    have e2 : iadd .i64 (iadd .i64 (pA s : Int) (digN s (pA s) : Int)) ((pP s).length : Int) = ((pA s + digN s (pA s) + (pP s).length : Nat) : Int) := by rw [e1, iaddN (by omega)]
    obtain ⟨N, hN⟩ : ∃ N, pA s + digN s (pA s) + (pP s).length = N := ⟨_, rfl⟩
    rw [hN] at e2
    refine vloop_eq2 (fr' := [(0, S s), (1, I (sc : Int)), (4, I (Int.ofNat 0)), (5, I (Int.ofNat 0)), (6, I (pA s : Int)), (7, I (digN s (pA s) : Int)), (8, I ((pP s).length : Int)), (9, I (rpX s : Int)), (11, natsV none), (12, I ((N : Int) - ((0 : Nat) : Int)))]) (h' := natsH .mine 3 none) ?_ rfl ?_
    · exact cons_eq rfl (cons_eq rfl (cons_eq rfl (cons_eq rfl (cons_eq rfl (cons_eq rfl (cons_eq rfl (cons_eq rfl (cons_eq rfl (cons_eq (slot_eq (I_eq (e2.trans (by omega)))) rfl)))))))))
    refine vloop_by (σ := { x : Nat × Option (Nat × List Nat) // x.1 ≤ digN s (pA s) + (pP s).length + 1 ∧ nats x.2 = lastD s (seen s x.1) })
      (fun x => [(0, S s), (1, I (sc : Int)), (4, I (Int.ofNat 0)), (5, I (Int.ofNat 0)), (6, I (pA s : Int)), (7, I (digN s (pA s) : Int)), (8, I ((pP s).length : Int)), (9, I (rpX s : Int)), (11, natsV x.1.2), (12, I ((N : Int) - (x.1.1 : Int)))])
      (fun x => natsH .mine 3 x.1.2) (fun x => digN s (pA s) + (pP s).length + 1 - x.1.1) ?_ ⟨(0, none), Nat.zero_le _, by
        have : seen s 0 = 0 := by unfold seen; rw [if_pos (Nat.zero_le _)]
        show [] = lastD s (seen s 0)
        rw [this, lastD_zero]⟩
    rintro ⟨⟨k, x⟩, hk, hx⟩
    simp only at hk hx
    have hdown : isub .i64 ((N : Int) - (k : Int)) (Int.ofNat 1) = (N : Int) - ((k + 1 : Nat) : Int) := by rw [ofn, isub64 (by omega) (by omega)]; omega
    by_cases hkle : k ≤ digN s (pA s) + (pP s).length
    · rcases x with _ | ⟨g, l⟩
      · conv => whnf
        by_cases hkP : k = (pP s).length
        · have hik : (N : Int) - (k : Int) = ((pA s + digN s (pA s) : Nat) : Int) := by omega
          have q1 : ile (pA s : Int) ((N : Int) - (k : Int)) = true := by rw [ile_t]; omega
          have q4 : ilt ((N : Int) - (k : Int)) (iadd .i64 (pA s : Int) (digN s (pA s) : Int)) = false := by rw [e1, ilt_f]; omega
          have q5 : ilt (iadd .i64 (pA s : Int) (digN s (pA s) : Int)) ((N : Int) - (k : Int)) = false := by rw [e1, ilt_f]; omega
          have hx2 : nats (none) = lastD s (seen s (k + 1)) := by rw [hkP, seen_at, ← hkP]; exact hx
          by_cases hil : pA s + digN s (pA s) < s.length
          · have q2 : ilt ((N : Int) - (k : Int)) (s.length : Int) = true := by rw [ilt_t]; omega
            obtain ⟨c, hc⟩ : ∃ c, s[pA s + digN s (pA s)]? = some c := ⟨s[pA s + digN s (pA s)], List.getElem?_eq_getElem hil⟩
            have hg : iget s ((N : Int) - (k : Int)) = some c := by rw [hik]; exact iget_t hc
            cases hcd : isDig c with
            | true =>
              have hdg := rdigit_ok c
              rw [hcd] at hdg
              repeat' ((first | refine vb_t rfl ?_ | refine vb_f rfl ?_ | refine vb_t (by assumption) ?_ | refine vb_f (by assumption) ?_ | refine vo_i hg ?_ | refine vpur_i hdg ?_ | refine vor_l ?_ | fail) <;> conv => whnf)
              exact ⟨⟨(k + 1, none), by simp only; omega, hx2⟩, by simp only; omega, cons_eq rfl (cons_eq rfl (cons_eq rfl (cons_eq rfl (cons_eq rfl (cons_eq rfl (cons_eq rfl (cons_eq rfl (cons_eq rfl (cons_eq (slot_eq (I_eq hdown)) rfl))))))))), rfl, rfl, rfl⟩
            | false =>
              have hdg := rdigit_ok c
              rw [hcd] at hdg
              repeat' ((first | refine vb_t rfl ?_ | refine vb_f rfl ?_ | refine vb_t (by assumption) ?_ | refine vb_f (by assumption) ?_ | refine vo_i hg ?_ | refine vpur_i hdg ?_ | refine vor_l ?_ | fail) <;> conv => whnf)
              exact ⟨⟨(k + 1, none), by simp only; omega, hx2⟩, by simp only; omega, cons_eq rfl (cons_eq rfl (cons_eq rfl (cons_eq rfl (cons_eq rfl (cons_eq rfl (cons_eq rfl (cons_eq rfl (cons_eq rfl (cons_eq (slot_eq (I_eq hdown)) rfl))))))))), rfl, rfl, rfl⟩
          · have q2 : ilt ((N : Int) - (k : Int)) (s.length : Int) = false := by rw [ilt_f]; omega
            repeat' ((first | refine vb_t rfl ?_ | refine vb_f rfl ?_ | refine vb_t (by assumption) ?_ | refine vb_f (by assumption) ?_ | refine vor_l ?_ | fail) <;> conv => whnf)
            exact ⟨⟨(k + 1, none), by simp only; omega, hx2⟩, by simp only; omega, cons_eq rfl (cons_eq rfl (cons_eq rfl (cons_eq rfl (cons_eq rfl (cons_eq rfl (cons_eq rfl (cons_eq rfl (cons_eq rfl (cons_eq (slot_eq (I_eq hdown)) rfl))))))))), rfl, rfl, rfl⟩
        have hat := at_step hkle hkP
        have hsl := seen_lt hkle hkP
        obtain ⟨c, hc⟩ : ∃ c, (allD s)[(allD s).length - 1 - seen s k]? = some c := ⟨(allD s)[(allD s).length - 1 - seen s k]'(by omega), List.getElem?_eq_getElem (by omega)⟩
        have hla := lastD_succ hsl hc
        rw [← seen_succ hkP] at hla
        rw [hat] at hc
        have hcd := allD_dig s c (List.mem_of_getElem? (hat.trans hc))
        have hdg := rdigit_ok c
        rw [hcd] at hdg
        have hil := (List.getElem?_eq_some_iff.1 hc).1
        have hik : (N : Int) - (k : Int) = ((pA s + digN s (pA s) + (pP s).length - k : Nat) : Int) := by omega
        have hg : iget s ((N : Int) - (k : Int)) = some c := by rw [hik]; exact iget_t hc
        have q1 : ile (pA s : Int) ((N : Int) - (k : Int)) = true := by rw [ile_t]; omega
        have q2 : ilt ((N : Int) - (k : Int)) (s.length : Int) = true := by rw [ilt_t]; omega
        have q7 : ile ((N : Int) - (k : Int)) (iadd .i64 (iadd .i64 (pA s : Int) (digN s (pA s) : Int)) ((pP s).length : Int)) = true := by rw [e2, ile_t]; omega
        have hnx : nats (some (0, [(dgt c).toNat])) = lastD s (seen s (k + 1)) := by rw [hla, ← hx]; rfl
        have hq4 : (ilt ((N : Int) - (k : Int)) (iadd .i64 (pA s : Int) (digN s (pA s) : Int)) = true) ∨ (ilt ((N : Int) - (k : Int)) (iadd .i64 (pA s : Int) (digN s (pA s) : Int)) = false ∧ ilt (iadd .i64 (pA s : Int) (digN s (pA s) : Int)) ((N : Int) - (k : Int)) = true) := by
          rw [e1, ilt_t, ilt_t, ilt_f]; omega
        rcases hq4 with q4 | ⟨q4, q5⟩
        · repeat' ((first | refine vb_t rfl ?_ | refine vb_f rfl ?_ | refine vb_t (by assumption) ?_ | refine vb_f (by assumption) ?_ | refine vo_i hg ?_ | refine vpur_i hdg ?_ | refine vb_t (room_t (by simp <;> omega)) ?_ | refine vor_l ?_ | fail) <;> conv => whnf)
          exact ⟨⟨(k + 1, some (0, [(dgt c).toNat])), by simp only; omega, hnx⟩, by simp only; omega, cons_eq rfl (cons_eq rfl (cons_eq rfl (cons_eq rfl (cons_eq rfl (cons_eq rfl (cons_eq rfl (cons_eq rfl (cons_eq rfl (cons_eq (slot_eq (I_eq hdown)) rfl))))))))), cons_eq (arr_eq (map_snoc [] _ _ (dgt_val hcd))) rfl, rfl, rfl⟩
        · repeat' ((first | refine vb_t rfl ?_ | refine vb_f rfl ?_ | refine vb_t (by assumption) ?_ | refine vb_f (by assumption) ?_ | refine vo_i hg ?_ | refine vpur_i hdg ?_ | refine vb_t (room_t (by simp <;> omega)) ?_ | refine vor_l ?_ | fail) <;> conv => whnf)
          exact ⟨⟨(k + 1, some (0, [(dgt c).toNat])), by simp only; omega, hnx⟩, by simp only; omega, cons_eq rfl (cons_eq rfl (cons_eq rfl (cons_eq rfl (cons_eq rfl (cons_eq rfl (cons_eq rfl (cons_eq rfl (cons_eq rfl (cons_eq (slot_eq (I_eq hdown)) rfl))))))))), cons_eq (arr_eq (map_snoc [] _ _ (dgt_val hcd))) rfl, rfl, rfl⟩
      · have hll : l.length ≤ 100000 := by
          have h3 := congrArg List.length hx
          have h4 : (lastD s (seen s k)).length ≤ (allD s).length := by unfold lastD; simp
          rw [allD_len] at h4
          change l.length = _ at h3
          omega
        have hq : ieq (l.length : Int) ((l.map natRow).length : Int) = true := by rw [ieq_t]; simp
        have hgg : Nat.beq g g = true := by simp
        conv => whnf
        by_cases hkP : k = (pP s).length
        · have hik : (N : Int) - (k : Int) = ((pA s + digN s (pA s) : Nat) : Int) := by omega
          have q1 : ile (pA s : Int) ((N : Int) - (k : Int)) = true := by rw [ile_t]; omega
          have q4 : ilt ((N : Int) - (k : Int)) (iadd .i64 (pA s : Int) (digN s (pA s) : Int)) = false := by rw [e1, ilt_f]; omega
          have q5 : ilt (iadd .i64 (pA s : Int) (digN s (pA s) : Int)) ((N : Int) - (k : Int)) = false := by rw [e1, ilt_f]; omega
          have hx2 : nats (some (g, l)) = lastD s (seen s (k + 1)) := by rw [hkP, seen_at, ← hkP]; exact hx
          by_cases hil : pA s + digN s (pA s) < s.length
          · have q2 : ilt ((N : Int) - (k : Int)) (s.length : Int) = true := by rw [ilt_t]; omega
            obtain ⟨c, hc⟩ : ∃ c, s[pA s + digN s (pA s)]? = some c := ⟨s[pA s + digN s (pA s)], List.getElem?_eq_getElem hil⟩
            have hg : iget s ((N : Int) - (k : Int)) = some c := by rw [hik]; exact iget_t hc
            cases hcd : isDig c with
            | true =>
              have hdg := rdigit_ok c
              rw [hcd] at hdg
              repeat' ((first | refine vb_t rfl ?_ | refine vb_f rfl ?_ | refine vb_t (by assumption) ?_ | refine vb_f (by assumption) ?_ | refine vo_i hg ?_ | refine vpur_i hdg ?_ | refine vor_l ?_ | fail) <;> conv => whnf)
              exact ⟨⟨(k + 1, some (g, l)), by simp only; omega, hx2⟩, by simp only; omega, cons_eq rfl (cons_eq rfl (cons_eq rfl (cons_eq rfl (cons_eq rfl (cons_eq rfl (cons_eq rfl (cons_eq rfl (cons_eq rfl (cons_eq (slot_eq (I_eq hdown)) rfl))))))))), rfl, rfl, rfl⟩
            | false =>
              have hdg := rdigit_ok c
              rw [hcd] at hdg
              repeat' ((first | refine vb_t rfl ?_ | refine vb_f rfl ?_ | refine vb_t (by assumption) ?_ | refine vb_f (by assumption) ?_ | refine vo_i hg ?_ | refine vpur_i hdg ?_ | refine vor_l ?_ | fail) <;> conv => whnf)
              exact ⟨⟨(k + 1, some (g, l)), by simp only; omega, hx2⟩, by simp only; omega, cons_eq rfl (cons_eq rfl (cons_eq rfl (cons_eq rfl (cons_eq rfl (cons_eq rfl (cons_eq rfl (cons_eq rfl (cons_eq rfl (cons_eq (slot_eq (I_eq hdown)) rfl))))))))), rfl, rfl, rfl⟩
          · have q2 : ilt ((N : Int) - (k : Int)) (s.length : Int) = false := by rw [ilt_f]; omega
            repeat' ((first | refine vb_t rfl ?_ | refine vb_f rfl ?_ | refine vb_t (by assumption) ?_ | refine vb_f (by assumption) ?_ | refine vor_l ?_ | fail) <;> conv => whnf)
            exact ⟨⟨(k + 1, some (g, l)), by simp only; omega, hx2⟩, by simp only; omega, cons_eq rfl (cons_eq rfl (cons_eq rfl (cons_eq rfl (cons_eq rfl (cons_eq rfl (cons_eq rfl (cons_eq rfl (cons_eq rfl (cons_eq (slot_eq (I_eq hdown)) rfl))))))))), rfl, rfl, rfl⟩
        have hat := at_step hkle hkP
        have hsl := seen_lt hkle hkP
        obtain ⟨c, hc⟩ : ∃ c, (allD s)[(allD s).length - 1 - seen s k]? = some c := ⟨(allD s)[(allD s).length - 1 - seen s k]'(by omega), List.getElem?_eq_getElem (by omega)⟩
        have hla := lastD_succ hsl hc
        rw [← seen_succ hkP] at hla
        rw [hat] at hc
        have hcd := allD_dig s c (List.mem_of_getElem? (hat.trans hc))
        have hdg := rdigit_ok c
        rw [hcd] at hdg
        have hil := (List.getElem?_eq_some_iff.1 hc).1
        have hik : (N : Int) - (k : Int) = ((pA s + digN s (pA s) + (pP s).length - k : Nat) : Int) := by omega
        have hg : iget s ((N : Int) - (k : Int)) = some c := by rw [hik]; exact iget_t hc
        have q1 : ile (pA s : Int) ((N : Int) - (k : Int)) = true := by rw [ile_t]; omega
        have q2 : ilt ((N : Int) - (k : Int)) (s.length : Int) = true := by rw [ilt_t]; omega
        have q7 : ile ((N : Int) - (k : Int)) (iadd .i64 (iadd .i64 (pA s : Int) (digN s (pA s) : Int)) ((pP s).length : Int)) = true := by rw [e2, ile_t]; omega
        have hnx : nats (some (g + 1, l ++ [(dgt c).toNat])) = lastD s (seen s (k + 1)) := by rw [hla, ← hx]; rfl
        have hq4 : (ilt ((N : Int) - (k : Int)) (iadd .i64 (pA s : Int) (digN s (pA s) : Int)) = true) ∨ (ilt ((N : Int) - (k : Int)) (iadd .i64 (pA s : Int) (digN s (pA s) : Int)) = false ∧ ilt (iadd .i64 (pA s : Int) (digN s (pA s) : Int)) ((N : Int) - (k : Int)) = true) := by
          rw [e1, ilt_t, ilt_t, ilt_f]; omega
        rcases hq4 with q4 | ⟨q4, q5⟩
        · repeat' ((first | refine vb_t rfl ?_ | refine vb_f rfl ?_ | refine vb_t (by assumption) ?_ | refine vb_f (by assumption) ?_ | refine vo_i hg ?_ | refine vpur_i hdg ?_ | refine vb_t (room_t (by simp <;> omega)) ?_ | refine vor_l ?_ | fail) <;> conv => whnf)
          exact ⟨⟨(k + 1, some (g + 1, l ++ [(dgt c).toNat])), by simp only; omega, hnx⟩, by simp only; omega, cons_eq rfl (cons_eq rfl (cons_eq rfl (cons_eq rfl (cons_eq rfl (cons_eq rfl (cons_eq rfl (cons_eq rfl (cons_eq (slot_eq (osl_eq rfl (by simp))) (cons_eq (slot_eq (I_eq hdown)) rfl))))))))), cons_eq (arr_eq (map_snoc l _ _ (dgt_val hcd))) rfl, rfl, rfl⟩
        · repeat' ((first | refine vb_t rfl ?_ | refine vb_f rfl ?_ | refine vb_t (by assumption) ?_ | refine vb_f (by assumption) ?_ | refine vo_i hg ?_ | refine vpur_i hdg ?_ | refine vb_t (room_t (by simp <;> omega)) ?_ | refine vor_l ?_ | fail) <;> conv => whnf)
          exact ⟨⟨(k + 1, some (g + 1, l ++ [(dgt c).toNat])), by simp only; omega, hnx⟩, by simp only; omega, cons_eq rfl (cons_eq rfl (cons_eq rfl (cons_eq rfl (cons_eq rfl (cons_eq rfl (cons_eq rfl (cons_eq rfl (cons_eq (slot_eq (osl_eq rfl (by simp))) (cons_eq (slot_eq (I_eq hdown)) rfl))))))))), cons_eq (arr_eq (map_snoc l _ _ (dgt_val hcd))) rfl, rfl, rfl⟩
    obtain rfl : k = digN s (pA s) + (pP s).length + 1 := by omega
    rw [seen_end] at hx
    have hne : 0 < (allD s).length := by
      rcases Nat.eq_zero_or_pos (allD s).length with h | h
      · exact (hb (by have h5 := List.length_eq_zero_iff.1 h; unfold allD at h5; exact List.append_eq_nil_iff.1 h5)).elim
      · exact h
    have hlen : (lastD s (allD s).length).length = (allD s).length := by unfold lastD; simp
    have q1 : ile (pA s : Int) ((N : Int) - ((digN s (pA s) + (pP s).length + 1 : Nat) : Int)) = false := by rw [ile_f]; omega
    rcases x with _ | ⟨g, l⟩
    · exfalso
      have h3 := congrArg List.length hx
      rw [hlen] at h3
      change 0 = _ at h3
      omega
    change l = _ at hx
    have hll : l.length = (allD s).length := by rw [hx, hlen]
    have hl0 : l ≠ [] := fun e => by rw [e] at hll; simp at hll; omega
    have hlv : valR l = valD (dgs (numP s)) := by
      obtain ⟨w1, w2, _⟩ := numP_w hb
      rw [hx, lastD_all, valR_rev]
      unfold dgs allD; rw [w1, w2]
    obtain ⟨M, hMS, hM1, hM2, hM3⟩ := rscaled_ok l hl0 (by rw [hx]; exact lastD_digR _ _) (by rw [hll, allD_len]; omega) sc (by omega)
    have hgg : Nat.beq g g = true := by simp
    have he : (l.map natRow).isEmpty = false := by
      cases l with
      | nil => exact (hl0 rfl).elim
      | cons c t => rfl
    have hdr : ((l.map natRow).take l.length).drop 0 = l.map natRow := by rw [List.drop_zero, List.take_of_length_le (by simp)]
    have hE := expD_le (numP s).exp
    have hE2 : -1000 ≤ expV (numP s).exp ∧ expV (numP s).exp ≤ 1000 := by unfold expV; split <;> omega
    have hbe : isub .i64 ((pP s).length : Int) (expV (numP s).exp) = ((numP s).part.length : Int) - expV (numP s).exp := by rw [(numP_w hb).2.1, isub64 (by omega) (by omega)]
    have hpl : (numP s).part.length ≤ s.length := (numP_facts s).2.1
    have hR := rround_ok M hM1 (by omega) (((numP s).part.length : Int) - expV (numP s).exp) (by omega) (by omega)
    rw [hM2, hlv, ← hbe] at hR
    have hX := rexp_num s (by omega) h1 hb
    have hs0 : 0 < s.length := by omega
    obtain ⟨c0, hc0⟩ : ∃ c, s[0]? = some c := ⟨s[0], List.getElem?_eq_getElem hs0⟩
    have hg0 : iget s (Int.ofNat 0) = some c0 := iget_t hc0
    have hbel : (numP s).below = decide (c0 = 45) := by rw [(numP_w hb).2.2]; unfold sgnB; rw [hc0]; simp
    clear hM1 hM2 hlv hT0 hx hlen hll hl0 hne hc0 hdown
    obtain ⟨X, hXe⟩ : ∃ X, valD (dgs (numP s)) * sc = X := ⟨_, rfl⟩
    rw [← hbe, hXe] at hV
    rw [hXe] at hR
    by_cases hM : rndN X (isub .i64 ((pP s).length : Int) (expV (numP s).exp)) ≤ 68719476736
    · have hRe := rndM_eq hM
      rw [hRe] at hR
      rw [if_pos hM] at hV
      obtain ⟨R, hRR⟩ : ∃ R, rndN X (isub .i64 ((pP s).length : Int) (expV (numP s).exp)) = R := ⟨_, rfl⟩
      rw [hRR] at hR hV hM
      have q6 : ilt (Int.ofNat 68719476736) (R : Int) = false := by rw [ilt_f, ofn]; omega
      by_cases h45 : c0 = 45
      · have q5 : ieq (c0.toNat : Int) (Int.ofNat 45) = true := ieq_c 45 rfl h45
        rw [hbel, decide_eq_true h45, if_pos rfl] at hV
        subst hV
        conv => whnf
        repeat' ((first | refine vb_t rfl ?_ | refine vb_f rfl ?_ | refine vb_t (by assumption) ?_ | refine vb_f (by assumption) ?_ | (rw [hdr]) | refine vpur_i hMS ?_ | refine vpur_i hX ?_ | refine vpur_i hR ?_ | refine vo_i hg0 ?_ | refine vor_l ?_ | fail) <;> conv => whnf)
        refine ⟨congrArg CR.ret ?_, rfl⟩
        show AV.tup [I (isub .i64 (Int.ofNat 0) (R : Int)), I 0] = .tup [I (-(R : Int)), I 0]
        rw [ofn, isub64 (by omega) (by omega), Int.natCast_zero, Int.zero_sub]
      · have q5 : ieq (c0.toNat : Int) (Int.ofNat 45) = false := ieq_nc 45 rfl h45
        rw [hbel, decide_eq_false h45, if_neg (by decide)] at hV
        subst hV
        conv => whnf
        repeat' ((first | refine vb_t rfl ?_ | refine vb_f rfl ?_ | refine vb_t (by assumption) ?_ | refine vb_f (by assumption) ?_ | (rw [hdr]) | refine vpur_i hMS ?_ | refine vpur_i hX ?_ | refine vpur_i hR ?_ | refine vo_i hg0 ?_ | refine vor_l ?_ | fail) <;> conv => whnf)
        exact ⟨rfl, rfl⟩
    · rw [if_neg hM] at hV
      subst hV
      rw [← rndM_le] at hM
      obtain ⟨R, hRR⟩ : ∃ R, rndM X (isub .i64 ((pP s).length : Int) (expV (numP s).exp)) = R := ⟨_, rfl⟩
      rw [hRR] at hR hM
      have q6 : ilt (Int.ofNat 68719476736) (R : Int) = true := by rw [ilt_t, ofn]; omega
      conv => whnf
      repeat' ((first | refine vb_t rfl ?_ | refine vb_f rfl ?_ | refine vb_t (by assumption) ?_ | refine vb_f (by assumption) ?_ | (rw [hdr]) | refine vpur_i hMS ?_ | refine vpur_i hX ?_ | refine vpur_i hR ?_ | refine vo_i hg0 ?_ | refine vor_l ?_ | fail) <;> conv => whnf)
      exact ⟨rfl, rfl⟩
  · have q1' := hn2 _ q1
    have q2' := hn2 _ q2
    have q3' := hn1 _ q3
    clear q1 q2 q3
    repeat' ((first | refine vb_t rfl ?_ | refine vb_f rfl ?_ | refine vb_t (by assumption) ?_ | refine vb_f (by assumption) ?_ | refine vor_l ?_ | fail) <;> conv => whnf)
    by_cases h0 : (numP s).stop = 0
    · have q2 : ieq ((numP s).stop : Int) (Int.ofNat 0) = true := by rw [ieq_t, h0]; rfl
      rw [if_pos (.inl h0)] at hV
      subst hV
      repeat' ((first | refine vb_t rfl ?_ | refine vb_f rfl ?_ | refine vb_t (by assumption) ?_ | refine vb_f (by assumption) ?_ | refine vpur_i hT0 ?_ | refine vor_l ?_ | fail) <;> conv => whnf)
      exact ⟨rfl, rfl⟩
    have q2 : ieq ((numP s).stop : Int) (Int.ofNat 0) = false := by rw [ieq_f, ofn]; omega
    by_cases h1 : (numP s).stop = s.length
    case neg =>
      have q3 : (!ieq ((numP s).stop : Int) (s.length : Int)) = true := hn2 _ (by rw [ieq_f]; omega)
      rw [if_pos (.inr (.inl h1))] at hV
      subst hV
      repeat' ((first | refine vb_t rfl ?_ | refine vb_f rfl ?_ | refine vb_t (by assumption) ?_ | refine vb_f (by assumption) ?_ | refine vpur_i hT0 ?_ | refine vor_l ?_ | fail) <;> conv => whnf)
      exact ⟨rfl, rfl⟩
    have q3 : (!ieq ((numP s).stop : Int) (s.length : Int)) = false := hn1 _ (by rw [ieq_t, h1])
    by_cases h2 : 300 < s.length
    · have q4 : ilt (Int.ofNat 300) (s.length : Int) = true := by rw [ilt_t, ofn]; omega
      rw [if_pos (.inr (.inr h2))] at hV
      subst hV
      repeat' ((first | refine vb_t rfl ?_ | refine vb_f rfl ?_ | refine vb_t (by assumption) ?_ | refine vb_f (by assumption) ?_ | refine vpur_i hT0 ?_ | refine vor_l ?_ | fail) <;> conv => whnf)
      exact ⟨rfl, rfl⟩
    have q4 : ilt (Int.ofNat 300) (s.length : Int) = false := by rw [ilt_f, ofn]; omega
    rw [if_neg (by omega)] at hV
    repeat' ((first | refine vb_t rfl ?_ | refine vb_f rfl ?_ | refine vb_t (by assumption) ?_ | refine vb_f (by assumption) ?_ | refine vpur_i hT0 ?_ | refine vor_l ?_ | fail) <;> conv => whnf)
    have hA : pA s ≤ 1 := by unfold pA sgnN; split <;> omega
    have hW : digN s (pA s) ≤ s.length := by have := digs_le2 s (pA s); rw [digs_len] at this; exact this
    have hP := pP_le s
    have e1 : iadd .i64 (pA s : Int) (digN s (pA s) : Int) = ((pA s + digN s (pA s) : Nat) : Int) := iaddN (by omega)
    have e2 : iadd .i64 (iadd .i64 (pA s : Int) (digN s (pA s) : Int)) ((pP s).length : Int) = ((pA s + digN s (pA s) + (pP s).length : Nat) : Int) := by rw [e1, iaddN (by omega)]
    obtain ⟨N, hN⟩ : ∃ N, pA s + digN s (pA s) + (pP s).length = N := ⟨_, rfl⟩
    rw [hN] at e2
    refine vloop_eq2 (fr' := [(0, S s), (1, I (sc : Int)), (4, I (Int.ofNat 0)), (5, I (Int.ofNat 0)), (6, I (pA s : Int)), (7, I (digN s (pA s) : Int)), (8, I ((pP s).length : Int)), (9, I (rpX s : Int)), (11, natsV none), (12, I ((N : Int) - ((0 : Nat) : Int)))]) (h' := natsH .mine 3 none) ?_ rfl ?_
    · exact cons_eq rfl (cons_eq rfl (cons_eq rfl (cons_eq rfl (cons_eq rfl (cons_eq rfl (cons_eq rfl (cons_eq rfl (cons_eq rfl (cons_eq (slot_eq (I_eq (e2.trans (by omega)))) rfl)))))))))
    refine vloop_by (σ := { x : Nat × Option (Nat × List Nat) // x.1 ≤ digN s (pA s) + (pP s).length + 1 ∧ nats x.2 = lastD s (seen s x.1) })
      (fun x => [(0, S s), (1, I (sc : Int)), (4, I (Int.ofNat 0)), (5, I (Int.ofNat 0)), (6, I (pA s : Int)), (7, I (digN s (pA s) : Int)), (8, I ((pP s).length : Int)), (9, I (rpX s : Int)), (11, natsV x.1.2), (12, I ((N : Int) - (x.1.1 : Int)))])
      (fun x => natsH .mine 3 x.1.2) (fun x => digN s (pA s) + (pP s).length + 1 - x.1.1) ?_ ⟨(0, none), Nat.zero_le _, by
        have : seen s 0 = 0 := by unfold seen; rw [if_pos (Nat.zero_le _)]
        show [] = lastD s (seen s 0)
        rw [this, lastD_zero]⟩
    rintro ⟨⟨k, x⟩, hk, hx⟩
    simp only at hk hx
    have hdown : isub .i64 ((N : Int) - (k : Int)) (Int.ofNat 1) = (N : Int) - ((k + 1 : Nat) : Int) := by rw [ofn, isub64 (by omega) (by omega)]; omega
    by_cases hkle : k ≤ digN s (pA s) + (pP s).length
    · rcases x with _ | ⟨g, l⟩
      · conv => whnf
        by_cases hkP : k = (pP s).length
        · have hik : (N : Int) - (k : Int) = ((pA s + digN s (pA s) : Nat) : Int) := by omega
          have q1 : ile (pA s : Int) ((N : Int) - (k : Int)) = true := by rw [ile_t]; omega
          have q4 : ilt ((N : Int) - (k : Int)) (iadd .i64 (pA s : Int) (digN s (pA s) : Int)) = false := by rw [e1, ilt_f]; omega
          have q5 : ilt (iadd .i64 (pA s : Int) (digN s (pA s) : Int)) ((N : Int) - (k : Int)) = false := by rw [e1, ilt_f]; omega
          have hx2 : nats (none) = lastD s (seen s (k + 1)) := by rw [hkP, seen_at, ← hkP]; exact hx
          by_cases hil : pA s + digN s (pA s) < s.length
          · have q2 : ilt ((N : Int) - (k : Int)) (s.length : Int) = true := by rw [ilt_t]; omega
            obtain ⟨c, hc⟩ : ∃ c, s[pA s + digN s (pA s)]? = some c := ⟨s[pA s + digN s (pA s)], List.getElem?_eq_getElem hil⟩
            have hg : iget s ((N : Int) - (k : Int)) = some c := by rw [hik]; exact iget_t hc
            cases hcd : isDig c with
            | true =>
              have hdg := rdigit_ok c
              rw [hcd] at hdg
              repeat' ((first | refine vb_t rfl ?_ | refine vb_f rfl ?_ | refine vb_t (by assumption) ?_ | refine vb_f (by assumption) ?_ | refine vo_i hg ?_ | refine vpur_i hdg ?_ | refine vor_l ?_ | fail) <;> conv => whnf)
              exact ⟨⟨(k + 1, none), by simp only; omega, hx2⟩, by simp only; omega, cons_eq rfl (cons_eq rfl (cons_eq rfl (cons_eq rfl (cons_eq rfl (cons_eq rfl (cons_eq rfl (cons_eq rfl (cons_eq rfl (cons_eq (slot_eq (I_eq hdown)) rfl))))))))), rfl, rfl, rfl⟩
            | false =>
              have hdg := rdigit_ok c
              rw [hcd] at hdg
              repeat' ((first | refine vb_t rfl ?_ | refine vb_f rfl ?_ | refine vb_t (by assumption) ?_ | refine vb_f (by assumption) ?_ | refine vo_i hg ?_ | refine vpur_i hdg ?_ | refine vor_l ?_ | fail) <;> conv => whnf)
              exact ⟨⟨(k + 1, none), by simp only; omega, hx2⟩, by simp only; omega, cons_eq rfl (cons_eq rfl (cons_eq rfl (cons_eq rfl (cons_eq rfl (cons_eq rfl (cons_eq rfl (cons_eq rfl (cons_eq rfl (cons_eq (slot_eq (I_eq hdown)) rfl))))))))), rfl, rfl, rfl⟩
          · have q2 : ilt ((N : Int) - (k : Int)) (s.length : Int) = false := by rw [ilt_f]; omega
            repeat' ((first | refine vb_t rfl ?_ | refine vb_f rfl ?_ | refine vb_t (by assumption) ?_ | refine vb_f (by assumption) ?_ | refine vor_l ?_ | fail) <;> conv => whnf)
            exact ⟨⟨(k + 1, none), by simp only; omega, hx2⟩, by simp only; omega, cons_eq rfl (cons_eq rfl (cons_eq rfl (cons_eq rfl (cons_eq rfl (cons_eq rfl (cons_eq rfl (cons_eq rfl (cons_eq rfl (cons_eq (slot_eq (I_eq hdown)) rfl))))))))), rfl, rfl, rfl⟩
        have hat := at_step hkle hkP
        have hsl := seen_lt hkle hkP
        obtain ⟨c, hc⟩ : ∃ c, (allD s)[(allD s).length - 1 - seen s k]? = some c := ⟨(allD s)[(allD s).length - 1 - seen s k]'(by omega), List.getElem?_eq_getElem (by omega)⟩
        have hla := lastD_succ hsl hc
        rw [← seen_succ hkP] at hla
        rw [hat] at hc
        have hcd := allD_dig s c (List.mem_of_getElem? (hat.trans hc))
        have hdg := rdigit_ok c
        rw [hcd] at hdg
        have hil := (List.getElem?_eq_some_iff.1 hc).1
        have hik : (N : Int) - (k : Int) = ((pA s + digN s (pA s) + (pP s).length - k : Nat) : Int) := by omega
        have hg : iget s ((N : Int) - (k : Int)) = some c := by rw [hik]; exact iget_t hc
        have q1 : ile (pA s : Int) ((N : Int) - (k : Int)) = true := by rw [ile_t]; omega
        have q2 : ilt ((N : Int) - (k : Int)) (s.length : Int) = true := by rw [ilt_t]; omega
        have q7 : ile ((N : Int) - (k : Int)) (iadd .i64 (iadd .i64 (pA s : Int) (digN s (pA s) : Int)) ((pP s).length : Int)) = true := by rw [e2, ile_t]; omega
        have hnx : nats (some (0, [(dgt c).toNat])) = lastD s (seen s (k + 1)) := by rw [hla, ← hx]; rfl
        have hq4 : (ilt ((N : Int) - (k : Int)) (iadd .i64 (pA s : Int) (digN s (pA s) : Int)) = true) ∨ (ilt ((N : Int) - (k : Int)) (iadd .i64 (pA s : Int) (digN s (pA s) : Int)) = false ∧ ilt (iadd .i64 (pA s : Int) (digN s (pA s) : Int)) ((N : Int) - (k : Int)) = true) := by
          rw [e1, ilt_t, ilt_t, ilt_f]; omega
        rcases hq4 with q4 | ⟨q4, q5⟩
        · repeat' ((first | refine vb_t rfl ?_ | refine vb_f rfl ?_ | refine vb_t (by assumption) ?_ | refine vb_f (by assumption) ?_ | refine vo_i hg ?_ | refine vpur_i hdg ?_ | refine vb_t (room_t (by simp <;> omega)) ?_ | refine vor_l ?_ | fail) <;> conv => whnf)
          exact ⟨⟨(k + 1, some (0, [(dgt c).toNat])), by simp only; omega, hnx⟩, by simp only; omega, cons_eq rfl (cons_eq rfl (cons_eq rfl (cons_eq rfl (cons_eq rfl (cons_eq rfl (cons_eq rfl (cons_eq rfl (cons_eq rfl (cons_eq (slot_eq (I_eq hdown)) rfl))))))))), cons_eq (arr_eq (map_snoc [] _ _ (dgt_val hcd))) rfl, rfl, rfl⟩
        · repeat' ((first | refine vb_t rfl ?_ | refine vb_f rfl ?_ | refine vb_t (by assumption) ?_ | refine vb_f (by assumption) ?_ | refine vo_i hg ?_ | refine vpur_i hdg ?_ | refine vb_t (room_t (by simp <;> omega)) ?_ | refine vor_l ?_ | fail) <;> conv => whnf)
          exact ⟨⟨(k + 1, some (0, [(dgt c).toNat])), by simp only; omega, hnx⟩, by simp only; omega, cons_eq rfl (cons_eq rfl (cons_eq rfl (cons_eq rfl (cons_eq rfl (cons_eq rfl (cons_eq rfl (cons_eq rfl (cons_eq rfl (cons_eq (slot_eq (I_eq hdown)) rfl))))))))), cons_eq (arr_eq (map_snoc [] _ _ (dgt_val hcd))) rfl, rfl, rfl⟩
      · have hll : l.length ≤ 100000 := by
          have h3 := congrArg List.length hx
          have h4 : (lastD s (seen s k)).length ≤ (allD s).length := by unfold lastD; simp
          rw [allD_len] at h4
          change l.length = _ at h3
          omega
        have hq : ieq (l.length : Int) ((l.map natRow).length : Int) = true := by rw [ieq_t]; simp
        have hgg : Nat.beq g g = true := by simp
        conv => whnf
        by_cases hkP : k = (pP s).length
        · have hik : (N : Int) - (k : Int) = ((pA s + digN s (pA s) : Nat) : Int) := by omega
          have q1 : ile (pA s : Int) ((N : Int) - (k : Int)) = true := by rw [ile_t]; omega
          have q4 : ilt ((N : Int) - (k : Int)) (iadd .i64 (pA s : Int) (digN s (pA s) : Int)) = false := by rw [e1, ilt_f]; omega
          have q5 : ilt (iadd .i64 (pA s : Int) (digN s (pA s) : Int)) ((N : Int) - (k : Int)) = false := by rw [e1, ilt_f]; omega
          have hx2 : nats (some (g, l)) = lastD s (seen s (k + 1)) := by rw [hkP, seen_at, ← hkP]; exact hx
          by_cases hil : pA s + digN s (pA s) < s.length
          · have q2 : ilt ((N : Int) - (k : Int)) (s.length : Int) = true := by rw [ilt_t]; omega
            obtain ⟨c, hc⟩ : ∃ c, s[pA s + digN s (pA s)]? = some c := ⟨s[pA s + digN s (pA s)], List.getElem?_eq_getElem hil⟩
            have hg : iget s ((N : Int) - (k : Int)) = some c := by rw [hik]; exact iget_t hc
            cases hcd : isDig c with
            | true =>
              have hdg := rdigit_ok c
              rw [hcd] at hdg
              repeat' ((first | refine vb_t rfl ?_ | refine vb_f rfl ?_ | refine vb_t (by assumption) ?_ | refine vb_f (by assumption) ?_ | refine vo_i hg ?_ | refine vpur_i hdg ?_ | refine vor_l ?_ | fail) <;> conv => whnf)
              exact ⟨⟨(k + 1, some (g, l)), by simp only; omega, hx2⟩, by simp only; omega, cons_eq rfl (cons_eq rfl (cons_eq rfl (cons_eq rfl (cons_eq rfl (cons_eq rfl (cons_eq rfl (cons_eq rfl (cons_eq rfl (cons_eq (slot_eq (I_eq hdown)) rfl))))))))), rfl, rfl, rfl⟩
            | false =>
              have hdg := rdigit_ok c
              rw [hcd] at hdg
              repeat' ((first | refine vb_t rfl ?_ | refine vb_f rfl ?_ | refine vb_t (by assumption) ?_ | refine vb_f (by assumption) ?_ | refine vo_i hg ?_ | refine vpur_i hdg ?_ | refine vor_l ?_ | fail) <;> conv => whnf)
              exact ⟨⟨(k + 1, some (g, l)), by simp only; omega, hx2⟩, by simp only; omega, cons_eq rfl (cons_eq rfl (cons_eq rfl (cons_eq rfl (cons_eq rfl (cons_eq rfl (cons_eq rfl (cons_eq rfl (cons_eq rfl (cons_eq (slot_eq (I_eq hdown)) rfl))))))))), rfl, rfl, rfl⟩
          · have q2 : ilt ((N : Int) - (k : Int)) (s.length : Int) = false := by rw [ilt_f]; omega
            repeat' ((first | refine vb_t rfl ?_ | refine vb_f rfl ?_ | refine vb_t (by assumption) ?_ | refine vb_f (by assumption) ?_ | refine vor_l ?_ | fail) <;> conv => whnf)
            exact ⟨⟨(k + 1, some (g, l)), by simp only; omega, hx2⟩, by simp only; omega, cons_eq rfl (cons_eq rfl (cons_eq rfl (cons_eq rfl (cons_eq rfl (cons_eq rfl (cons_eq rfl (cons_eq rfl (cons_eq rfl (cons_eq (slot_eq (I_eq hdown)) rfl))))))))), rfl, rfl, rfl⟩
        have hat := at_step hkle hkP
        have hsl := seen_lt hkle hkP
        obtain ⟨c, hc⟩ : ∃ c, (allD s)[(allD s).length - 1 - seen s k]? = some c := ⟨(allD s)[(allD s).length - 1 - seen s k]'(by omega), List.getElem?_eq_getElem (by omega)⟩
        have hla := lastD_succ hsl hc
        rw [← seen_succ hkP] at hla
        rw [hat] at hc
        have hcd := allD_dig s c (List.mem_of_getElem? (hat.trans hc))
        have hdg := rdigit_ok c
        rw [hcd] at hdg
        have hil := (List.getElem?_eq_some_iff.1 hc).1
        have hik : (N : Int) - (k : Int) = ((pA s + digN s (pA s) + (pP s).length - k : Nat) : Int) := by omega
        have hg : iget s ((N : Int) - (k : Int)) = some c := by rw [hik]; exact iget_t hc
        have q1 : ile (pA s : Int) ((N : Int) - (k : Int)) = true := by rw [ile_t]; omega
        have q2 : ilt ((N : Int) - (k : Int)) (s.length : Int) = true := by rw [ilt_t]; omega
        have q7 : ile ((N : Int) - (k : Int)) (iadd .i64 (iadd .i64 (pA s : Int) (digN s (pA s) : Int)) ((pP s).length : Int)) = true := by rw [e2, ile_t]; omega
        have hnx : nats (some (g + 1, l ++ [(dgt c).toNat])) = lastD s (seen s (k + 1)) := by rw [hla, ← hx]; rfl
        have hq4 : (ilt ((N : Int) - (k : Int)) (iadd .i64 (pA s : Int) (digN s (pA s) : Int)) = true) ∨ (ilt ((N : Int) - (k : Int)) (iadd .i64 (pA s : Int) (digN s (pA s) : Int)) = false ∧ ilt (iadd .i64 (pA s : Int) (digN s (pA s) : Int)) ((N : Int) - (k : Int)) = true) := by
          rw [e1, ilt_t, ilt_t, ilt_f]; omega
        rcases hq4 with q4 | ⟨q4, q5⟩
        · repeat' ((first | refine vb_t rfl ?_ | refine vb_f rfl ?_ | refine vb_t (by assumption) ?_ | refine vb_f (by assumption) ?_ | refine vo_i hg ?_ | refine vpur_i hdg ?_ | refine vb_t (room_t (by simp <;> omega)) ?_ | refine vor_l ?_ | fail) <;> conv => whnf)
          exact ⟨⟨(k + 1, some (g + 1, l ++ [(dgt c).toNat])), by simp only; omega, hnx⟩, by simp only; omega, cons_eq rfl (cons_eq rfl (cons_eq rfl (cons_eq rfl (cons_eq rfl (cons_eq rfl (cons_eq rfl (cons_eq rfl (cons_eq (slot_eq (osl_eq rfl (by simp))) (cons_eq (slot_eq (I_eq hdown)) rfl))))))))), cons_eq (arr_eq (map_snoc l _ _ (dgt_val hcd))) rfl, rfl, rfl⟩
        · repeat' ((first | refine vb_t rfl ?_ | refine vb_f rfl ?_ | refine vb_t (by assumption) ?_ | refine vb_f (by assumption) ?_ | refine vo_i hg ?_ | refine vpur_i hdg ?_ | refine vb_t (room_t (by simp <;> omega)) ?_ | refine vor_l ?_ | fail) <;> conv => whnf)
          exact ⟨⟨(k + 1, some (g + 1, l ++ [(dgt c).toNat])), by simp only; omega, hnx⟩, by simp only; omega, cons_eq rfl (cons_eq rfl (cons_eq rfl (cons_eq rfl (cons_eq rfl (cons_eq rfl (cons_eq rfl (cons_eq rfl (cons_eq (slot_eq (osl_eq rfl (by simp))) (cons_eq (slot_eq (I_eq hdown)) rfl))))))))), cons_eq (arr_eq (map_snoc l _ _ (dgt_val hcd))) rfl, rfl, rfl⟩
    obtain rfl : k = digN s (pA s) + (pP s).length + 1 := by omega
    rw [seen_end] at hx
    have hne : 0 < (allD s).length := by
      rcases Nat.eq_zero_or_pos (allD s).length with h | h
      · exact (hb (by have h5 := List.length_eq_zero_iff.1 h; unfold allD at h5; exact List.append_eq_nil_iff.1 h5)).elim
      · exact h
    have hlen : (lastD s (allD s).length).length = (allD s).length := by unfold lastD; simp
    have q1 : ile (pA s : Int) ((N : Int) - ((digN s (pA s) + (pP s).length + 1 : Nat) : Int)) = false := by rw [ile_f]; omega
    rcases x with _ | ⟨g, l⟩
    · exfalso
      have h3 := congrArg List.length hx
      rw [hlen] at h3
      change 0 = _ at h3
      omega
    change l = _ at hx
    have hll : l.length = (allD s).length := by rw [hx, hlen]
    have hl0 : l ≠ [] := fun e => by rw [e] at hll; simp at hll; omega
    have hlv : valR l = valD (dgs (numP s)) := by
      obtain ⟨w1, w2, _⟩ := numP_w hb
      rw [hx, lastD_all, valR_rev]
      unfold dgs allD; rw [w1, w2]
    obtain ⟨M, hMS, hM1, hM2, hM3⟩ := rscaled_ok l hl0 (by rw [hx]; exact lastD_digR _ _) (by rw [hll, allD_len]; omega) sc (by omega)
    have hgg : Nat.beq g g = true := by simp
    have he : (l.map natRow).isEmpty = false := by
      cases l with
      | nil => exact (hl0 rfl).elim
      | cons c t => rfl
    have hdr : ((l.map natRow).take l.length).drop 0 = l.map natRow := by rw [List.drop_zero, List.take_of_length_le (by simp)]
    have hE := expD_le (numP s).exp
    have hE2 : -1000 ≤ expV (numP s).exp ∧ expV (numP s).exp ≤ 1000 := by unfold expV; split <;> omega
    have hbe : isub .i64 ((pP s).length : Int) (expV (numP s).exp) = ((numP s).part.length : Int) - expV (numP s).exp := by rw [(numP_w hb).2.1, isub64 (by omega) (by omega)]
    have hpl : (numP s).part.length ≤ s.length := (numP_facts s).2.1
    have hR := rround_ok M hM1 (by omega) (((numP s).part.length : Int) - expV (numP s).exp) (by omega) (by omega)
    rw [hM2, hlv, ← hbe] at hR
    have hX := rexp_num s (by omega) h1 hb
    have hs0 : 0 < s.length := by omega
    obtain ⟨c0, hc0⟩ : ∃ c, s[0]? = some c := ⟨s[0], List.getElem?_eq_getElem hs0⟩
    have hg0 : iget s (Int.ofNat 0) = some c0 := iget_t hc0
    have hbel : (numP s).below = decide (c0 = 45) := by rw [(numP_w hb).2.2]; unfold sgnB; rw [hc0]; simp
    clear hM1 hM2 hlv hT0 hx hlen hll hl0 hne hc0 hdown
    obtain ⟨X, hXe⟩ : ∃ X, valD (dgs (numP s)) * sc = X := ⟨_, rfl⟩
    rw [← hbe, hXe] at hV
    rw [hXe] at hR
    by_cases hM : rndN X (isub .i64 ((pP s).length : Int) (expV (numP s).exp)) ≤ 68719476736
    · have hRe := rndM_eq hM
      rw [hRe] at hR
      rw [if_pos hM] at hV
      obtain ⟨R, hRR⟩ : ∃ R, rndN X (isub .i64 ((pP s).length : Int) (expV (numP s).exp)) = R := ⟨_, rfl⟩
      rw [hRR] at hR hV hM
      have q6 : ilt (Int.ofNat 68719476736) (R : Int) = false := by rw [ilt_f, ofn]; omega
      by_cases h45 : c0 = 45
      · have q5 : ieq (c0.toNat : Int) (Int.ofNat 45) = true := ieq_c 45 rfl h45
        rw [hbel, decide_eq_true h45, if_pos rfl] at hV
        subst hV
        conv => whnf
        repeat' ((first | refine vb_t rfl ?_ | refine vb_f rfl ?_ | refine vb_t (by assumption) ?_ | refine vb_f (by assumption) ?_ | (rw [hdr]) | refine vpur_i hMS ?_ | refine vpur_i hX ?_ | refine vpur_i hR ?_ | refine vo_i hg0 ?_ | refine vor_l ?_ | fail) <;> conv => whnf)
        refine ⟨congrArg CR.ret ?_, rfl⟩
        show AV.tup [I (isub .i64 (Int.ofNat 0) (R : Int)), I 0] = .tup [I (-(R : Int)), I 0]
        rw [ofn, isub64 (by omega) (by omega), Int.natCast_zero, Int.zero_sub]
      · have q5 : ieq (c0.toNat : Int) (Int.ofNat 45) = false := ieq_nc 45 rfl h45
        rw [hbel, decide_eq_false h45, if_neg (by decide)] at hV
        subst hV
        conv => whnf
        repeat' ((first | refine vb_t rfl ?_ | refine vb_f rfl ?_ | refine vb_t (by assumption) ?_ | refine vb_f (by assumption) ?_ | (rw [hdr]) | refine vpur_i hMS ?_ | refine vpur_i hX ?_ | refine vpur_i hR ?_ | refine vo_i hg0 ?_ | refine vor_l ?_ | fail) <;> conv => whnf)
        exact ⟨rfl, rfl⟩
    · rw [if_neg hM] at hV
      subst hV
      rw [← rndM_le] at hM
      obtain ⟨R, hRR⟩ : ∃ R, rndM X (isub .i64 ((pP s).length : Int) (expV (numP s).exp)) = R := ⟨_, rfl⟩
      rw [hRR] at hR hM
      have q6 : ilt (Int.ofNat 68719476736) (R : Int) = true := by rw [ilt_t, ofn]; omega
      conv => whnf
      repeat' ((first | refine vb_t rfl ?_ | refine vb_f rfl ?_ | refine vb_t (by assumption) ?_ | refine vb_f (by assumption) ?_ | (rw [hdr]) | refine vpur_i hMS ?_ | refine vpur_i hX ?_ | refine vpur_i hR ?_ | refine vo_i hg0 ?_ | refine vor_l ?_ | fail) <;> conv => whnf)
      exact ⟨rfl, rfl⟩
end Go.Proofs.YtjeblkicgmmhiaaGreatDoor.Ab
namespace Go.Proofs.YtjeblkicgmmhiaaGreatDoor.Ab
open Go
set_option linter.unusedSimpArgs false
set_option maxRecDepth 100000
set_option linter.unusedVariables false
set_option maxHeartbeats 4000000
theorem lower_length (s : List UInt8) : (lower s).length = s.length := by unfold lower; simp
theorem rlow_up {c : UInt8} (h1 : 65 ≤ c.toNat) (h2 : c.toNat ≤ 90) : iadd .u8 (isub .u8 (c.toNat : Int) (Int.ofNat 65)) (Int.ofNat 97) = ((low c).toNat : Int) := by
  have e : low c = c + 32 := by unfold low; rw [if_pos ⟨h1, h2⟩]
  have e2 : (c + 32).toNat = c.toNat + 32 := by rw [UInt8.toNat_add]; have : (32 : UInt8).toNat = 32 := rfl; omega
  rw [e, e2]
  unfold iadd isub
  simp only [IntKind.wrap, IntKind.signed, IntKind.bits, Bool.false_and, Bool.false_eq_true, if_false, ofn]
  omega
theorem byteText (c : UInt8) : textOf [[DV.int .u8 (c.toNat : Int)]] = some [c] := by
  have := c.toNat_lt
  show textOf [byteRow c] = some [c]
  exact textOf_bytes [c]
theorem rlower_ok (s : List UInt8) (hs : s.length ≤ 1000000) : Pur F0 118 [S s] [] .no (.ret (S (lower s))) .no := by
  refine pur_code code118_ok ?_
  conv => whnf
  refine vloop_by (σ := { i : Nat // i ≤ s.length }) (fun i => [(0, S s), (2, S []), (3, S (lower (s.take i.1))), (4, I (i.1 : Int))]) (fun _ => []) (fun i => s.length - i.1) ?_ ⟨0, Nat.zero_le _⟩
  rintro ⟨i, hi⟩
  conv => whnf
  by_cases hlt : i < s.length
  · have q1 : ilt (i : Int) (s.length : Int) = true := by rw [ilt_t]; omega
    obtain ⟨c, hc⟩ : ∃ c, s[i]? = some c := ⟨s[i], List.getElem?_eq_getElem hlt⟩
    have hg : iget s (i : Int) = some c := iget_t hc
    have hnx : lower (s.take (i + 1)) = lower (s.take i) ++ [low c] := by
      unfold lower; rw [List.take_add_one, hc, List.map_append]; rfl
    have hll : (lower (s.take i)).length ≤ 1000000 := by rw [lower_length, List.length_take]; omega
    by_cases hu : 65 ≤ c.toNat ∧ c.toNat ≤ 90
    · have q2 : ile (Int.ofNat 65) (c.toNat : Int) = true := by rw [ile_t, ofn]; omega
      have q3 : ile (c.toNat : Int) (Int.ofNat 90) = true := by rw [ile_t, ofn]; omega
      have hb : textOf [[DV.int .u8 (iadd .u8 (isub .u8 (c.toNat : Int) (Int.ofNat 65)) (Int.ofNat 97))]] = some [low c] := by rw [rlow_up hu.1 hu.2]; exact byteText _
      repeat' ((first | refine vb_t rfl ?_ | refine vb_f rfl ?_ | refine vb_t (by assumption) ?_ | refine vb_f (by assumption) ?_ | refine vo_i hg ?_ | refine vo_i hb ?_ | refine vb_t (roomS_t (by simp <;> omega)) ?_ | refine vor_l ?_ | fail) <;> conv => whnf)
      exact ⟨⟨i + 1, by omega⟩, by simp only; omega, cons_eq rfl (cons_eq rfl (cons_eq (slot_eq (S_eq hnx.symm)) (cons_eq (slot_eq (I_eq (iadd_one (i := i) (by omega)))) rfl))), rfl, rfl, rfl⟩
    · have hl : low c = c := by unfold low; rw [if_neg hu]
      have hb : textOf [[DV.int .u8 (c.toNat : Int)]] = some [low c] := by rw [hl]; exact byteText _
      by_cases h1 : 65 ≤ c.toNat
      · have q2 : ile (Int.ofNat 65) (c.toNat : Int) = true := by rw [ile_t, ofn]; omega
        have q3 : ile (c.toNat : Int) (Int.ofNat 90) = false := by rw [ile_f, ofn]; omega
        repeat' ((first | refine vb_t rfl ?_ | refine vb_f rfl ?_ | refine vb_t (by assumption) ?_ | refine vb_f (by assumption) ?_ | refine vo_i hg ?_ | refine vo_i hb ?_ | refine vb_t (roomS_t (by simp <;> omega)) ?_ | refine vor_l ?_ | fail) <;> conv => whnf)
        exact ⟨⟨i + 1, by omega⟩, by simp only; omega, cons_eq rfl (cons_eq rfl (cons_eq (slot_eq (S_eq hnx.symm)) (cons_eq (slot_eq (I_eq (iadd_one (i := i) (by omega)))) rfl))), rfl, rfl, rfl⟩
      · have q2 : ile (Int.ofNat 65) (c.toNat : Int) = false := by rw [ile_f, ofn]; omega
        repeat' ((first | refine vb_t rfl ?_ | refine vb_f rfl ?_ | refine vb_t (by assumption) ?_ | refine vb_f (by assumption) ?_ | refine vo_i hg ?_ | refine vo_i hb ?_ | refine vb_t (roomS_t (by simp <;> omega)) ?_ | refine vor_l ?_ | fail) <;> conv => whnf)
        exact ⟨⟨i + 1, by omega⟩, by simp only; omega, cons_eq rfl (cons_eq rfl (cons_eq (slot_eq (S_eq hnx.symm)) (cons_eq (slot_eq (I_eq (iadd_one (i := i) (by omega)))) rfl))), rfl, rfl, rfl⟩
  · have q1 : ilt (i : Int) (s.length : Int) = false := by rw [ilt_f]; omega
    repeat' ((first | refine vb_t rfl ?_ | refine vb_f rfl ?_ | refine vb_t (by assumption) ?_ | refine vb_f (by assumption) ?_ | refine vor_l ?_ | fail) <;> conv => whnf)
    exact ⟨congrArg CR.ret (S_eq (by show lower (s.take i) = lower s; rw [List.take_of_length_le (by omega)])), rfl⟩
theorem ris_ok (s k : List UInt8) (hs : s.length ≤ 1000000) (hk : k.length ≤ 1000000) : Pur F0 83 [S s, S k] [] .no (.ret (B (seq (lower s) (lower k)))) .no := by
  refine pur_code code83_ok ?_
  conv => whnf
  repeat' ((first | refine vb_t rfl ?_ | refine vb_f rfl ?_ | refine vb_t (by assumption) ?_ | refine vb_f (by assumption) ?_ | refine vpur_i (rlower_ok s hs) ?_ | refine vpur_i (rlower_ok k hk) ?_ | refine vor_l ?_ | fail) <;> conv => whnf)
  exact ⟨rfl, rfl⟩
theorem rword_ok (l : List Tok) (v : DV) (hv : toksA l v) (at_ : Int) : Pur F0 82 [.d v, I at_] [] .no (.ret (tokA (wordS l at_))) .no := by
  refine pur_code code82_ok ?_
  conv => whnf
  rcases hv with ⟨rfl, rfl⟩ | rfl
  · have hw : wordS [] at_ = tokEnd := by unfold wordS; split <;> rfl
    rw [hw]
    conv => whnf
    by_cases h0 : at_ < 0
    · have q : ilt at_ (Int.ofNat 0) = true := by rw [ilt_t]; exact h0
      repeat' ((first | refine vb_t rfl ?_ | refine vb_f rfl ?_ | refine vb_t (by assumption) ?_ | refine vb_f (by assumption) ?_ | refine vor_l ?_ | fail) <;> conv => whnf)
      exact ⟨rfl, rfl⟩
    · have q : ilt at_ (Int.ofNat 0) = false := by rw [ilt_f]; (first | omega | (simp only [ilt_t, ilt_f, ile_t, ile_f, ieq_t, ieq_f, ofn, List.length_map, Bool.not_eq_true', Bool.not_eq_false'] at *; omega))
      have q2 : ile 0 at_ = true := by rw [ile_t]; omega
      repeat' ((first | refine vb_t rfl ?_ | refine vb_f rfl ?_ | refine vb_t (by assumption) ?_ | refine vb_f (by assumption) ?_ | refine vor_l ?_ | fail) <;> conv => whnf)
      exact ⟨rfl, rfl⟩
  · conv => whnf
    by_cases h0 : at_ < 0
    · have q : ilt at_ (Int.ofNat 0) = true := by rw [ilt_t]; exact h0
      rw [wordS_lt h0]
      repeat' ((first | refine vb_t rfl ?_ | refine vb_f rfl ?_ | refine vb_t (by assumption) ?_ | refine vb_f (by assumption) ?_ | refine vor_l ?_ | fail) <;> conv => whnf)
      exact ⟨rfl, rfl⟩
    · have q : ilt at_ (Int.ofNat 0) = false := by rw [ilt_f]; (first | omega | (simp only [ilt_t, ilt_f, ile_t, ile_f, ieq_t, ieq_f, ofn, List.length_map, Bool.not_eq_true', Bool.not_eq_false'] at *; omega))
      by_cases h1 : (l.length : Int) ≤ at_
      · have q2 : ile ((l.map tokRow).length : Int) at_ = true := by rw [ile_t, List.length_map]; exact h1
        rw [wordS_ge h1]
        repeat' ((first | refine vb_t rfl ?_ | refine vb_f rfl ?_ | refine vb_t (by assumption) ?_ | refine vb_f (by assumption) ?_ | refine vor_l ?_ | fail) <;> conv => whnf)
        exact ⟨rfl, rfl⟩
      · have q2 : ile ((l.map tokRow).length : Int) at_ = false := by rw [ile_f, List.length_map]; omega
        have ht := wordS_in (l := l) (i := at_) (by omega) (by omega)
        repeat' ((first | refine vb_t rfl ?_ | refine vb_f rfl ?_ | refine vb_t (by assumption) ?_ | refine vb_f (by assumption) ?_ | refine vo_i ht ?_ | refine vor_l ?_ | fail) <;> conv => whnf)
        exact ⟨rfl, rfl⟩
/-! Lists of texts. -/
def wsRow (s : List UInt8) : List DV := [.str s]
theorem ws_row (l : List (List UInt8)) (i : Nat) {w : List UInt8} (h : l[i]? = some w) : iget (l.map wsRow) (i : Int) = some (wsRow w) := iget_t (by rw [List.getElem?_map, h]; rfl)
theorem any_ok (s : List UInt8) (ws : List (List UInt8)) (hs : s.length ≤ 1000000) (hws : ∀ w ∈ ws, w.length ≤ 1000000) (hn : ws.length ≤ 1000000) :
    Pur F0 119 [S s, .d (.sl 1 (ws.map wsRow))] [] .no (.ret (B (anyW s ws))) .no := by
  refine pur_code code119_ok ?_
  conv => whnf
  refine vloop_by (σ := { i : Nat // i ≤ ws.length ∧ anyW s (ws.take i) = false }) (fun i => [(0, S s), (1, .d (.sl 1 (ws.map wsRow))), (4, B false), (5, I (i.1 : Int))]) (fun _ => []) (fun i => ws.length - i.1) ?_ ⟨0, Nat.zero_le _, rfl⟩
  rintro ⟨i, hi, hno⟩
  conv => whnf
  by_cases hlt : i < ws.length
  · have q1 : ilt (i : Int) ((ws.map wsRow).length : Int) = true := by rw [ilt_t, List.length_map]; omega
    obtain ⟨w, hw⟩ : ∃ w, ws[i]? = some w := ⟨ws[i], List.getElem?_eq_getElem hlt⟩
    have hg := ws_row ws i hw
    have hwl := hws w (List.mem_of_getElem? hw)
    by_cases hm : lower s = lower w
    · have q2 : seq (lower s) (lower w) = true := by rw [seq_t]; exact hm
      have hA : anyW s ws = true := by unfold anyW; rw [List.any_eq_true]; exact ⟨w, List.mem_of_getElem? hw, by simpa using hm⟩
      rw [hA]
      repeat' ((first | refine vb_t rfl ?_ | refine vb_f rfl ?_ | refine vb_t (by assumption) ?_ | refine vb_f (by assumption) ?_ | refine vo_i hg ?_ | refine vpur_i (ris_ok s w hs hwl) ?_ | refine vor_l ?_ | fail) <;> conv => whnf)
      exact ⟨rfl, rfl⟩
    · have q2 : seq (lower s) (lower w) = false := by rw [seq_f]; exact hm
      repeat' ((first | refine vb_t rfl ?_ | refine vb_f rfl ?_ | refine vb_t (by assumption) ?_ | refine vb_f (by assumption) ?_ | refine vo_i hg ?_ | refine vpur_i (ris_ok s w hs hwl) ?_ | refine vor_l ?_ | fail) <;> conv => whnf)
      refine ⟨⟨i + 1, by omega, ?_⟩, by simp only; omega, cons_eq rfl (cons_eq rfl (cons_eq rfl (cons_eq (slot_eq (I_eq (iadd_one (i := i) (by omega)))) rfl))), rfl, rfl, rfl⟩
      unfold anyW at hno ⊢
      rw [List.take_add_one, hw, List.any_append, hno]
      simpa using hm
  · have q1 : ilt (i : Int) ((ws.map wsRow).length : Int) = false := by rw [ilt_f, List.length_map]; omega
    rw [List.take_of_length_le (by omega)] at hno
    rw [hno]
    repeat' ((first | refine vb_t rfl ?_ | refine vb_f rfl ?_ | refine vb_t (by assumption) ?_ | refine vb_f (by assumption) ?_ | refine vor_l ?_ | fail) <;> conv => whnf)
    exact ⟨rfl, rfl⟩
theorem rnought_ok (s : List UInt8) (hs : s.length ≤ 1000000) : Pur F0 120 [S s] [] .no (.ret (B (noughtS s))) .no := by
  refine pur_code code120_ok ?_
  conv => whnf
  refine vloop_by (σ := { i : Nat // i ≤ s.length ∧ noughtS (s.drop i) = noughtS s }) (fun i => [(0, S s), (2, B false), (3, I (i.1 : Int))]) (fun _ => []) (fun i => s.length - i.1) ?_ ⟨0, Nat.zero_le _, rfl⟩
  rintro ⟨i, hi, hno⟩
  conv => whnf
  by_cases hlt : i < s.length
  · have q1 : ilt (i : Int) (s.length : Int) = true := by rw [ilt_t]; omega
    obtain ⟨c, hc⟩ : ∃ c, s[i]? = some c := ⟨s[i], List.getElem?_eq_getElem hlt⟩
    have hg : iget s (i : Int) = some c := iget_t hc
    rw [List.drop_eq_getElem_cons hlt, (List.getElem?_eq_some_iff.1 hc).2, noughtS] at hno
    by_cases h1 : c = 101
    · have t1 : ieq (c.toNat : Int) (Int.ofNat 101) = true := ieq_c 101 rfl h1
      rw [if_pos (.inl h1)] at hno
      repeat' ((first | refine vb_t rfl ?_ | refine vb_f rfl ?_ | refine vb_t (by assumption) ?_ | refine vb_f (by assumption) ?_ | refine vo_i hg ?_ | refine vor_l ?_ | fail) <;> conv => whnf)
      exact ⟨congrArg CR.ret (congrArg AV.d (congrArg DV.bool hno)), rfl⟩
    have t1 : ieq (c.toNat : Int) (Int.ofNat 101) = false := ieq_nc 101 rfl h1
    by_cases h2 : c = 69
    · have t2 : ieq (c.toNat : Int) (Int.ofNat 69) = true := ieq_c 69 rfl h2
      rw [if_pos (.inr h2)] at hno
      repeat' ((first | refine vb_t rfl ?_ | refine vb_f rfl ?_ | refine vb_t (by assumption) ?_ | refine vb_f (by assumption) ?_ | refine vo_i hg ?_ | refine vor_l ?_ | fail) <;> conv => whnf)
      exact ⟨congrArg CR.ret (congrArg AV.d (congrArg DV.bool hno)), rfl⟩
    have t2 : ieq (c.toNat : Int) (Int.ofNat 69) = false := ieq_nc 69 rfl h2
    rw [if_neg (fun h => by rcases h with h | h <;> contradiction)] at hno
    have hnx : isCut c.toNat = true → noughtS (s.drop (i + 1)) = noughtS s := fun h => by rw [if_pos h] at hno; exact hno
    by_cases h3 : c = 43
    · have t3 : (!ieq (c.toNat : Int) (Int.ofNat 43)) = false := by rw [ieq_c 43 rfl h3]; rfl
      repeat' ((first | refine vb_t rfl ?_ | refine vb_f rfl ?_ | refine vb_t (by assumption) ?_ | refine vb_f (by assumption) ?_ | refine vo_i hg ?_ | refine vor_l ?_ | fail) <;> conv => whnf)
      exact ⟨⟨i + 1, by omega, hnx (by rw [h3]; rfl)⟩, by simp only; omega, cons_eq rfl (cons_eq rfl (cons_eq (slot_eq (I_eq (iadd_one (i := i) (by omega)))) rfl)), rfl, rfl, rfl⟩
    have t3 : (!ieq (c.toNat : Int) (Int.ofNat 43)) = true := by rw [ieq_nc 43 rfl h3]; rfl
    by_cases h4 : c = 45
    · have t4 : (!ieq (c.toNat : Int) (Int.ofNat 45)) = false := by rw [ieq_c 45 rfl h4]; rfl
      repeat' ((first | refine vb_t rfl ?_ | refine vb_f rfl ?_ | refine vb_t (by assumption) ?_ | refine vb_f (by assumption) ?_ | refine vo_i hg ?_ | refine vor_l ?_ | fail) <;> conv => whnf)
      exact ⟨⟨i + 1, by omega, hnx (by rw [h4]; rfl)⟩, by simp only; omega, cons_eq rfl (cons_eq rfl (cons_eq (slot_eq (I_eq (iadd_one (i := i) (by omega)))) rfl)), rfl, rfl, rfl⟩
    have t4 : (!ieq (c.toNat : Int) (Int.ofNat 45)) = true := by rw [ieq_nc 45 rfl h4]; rfl
    by_cases h5 : c = 46
    · have t5 : (!ieq (c.toNat : Int) (Int.ofNat 46)) = false := by rw [ieq_c 46 rfl h5]; rfl
      repeat' ((first | refine vb_t rfl ?_ | refine vb_f rfl ?_ | refine vb_t (by assumption) ?_ | refine vb_f (by assumption) ?_ | refine vo_i hg ?_ | refine vor_l ?_ | fail) <;> conv => whnf)
      exact ⟨⟨i + 1, by omega, hnx (by rw [h5]; rfl)⟩, by simp only; omega, cons_eq rfl (cons_eq rfl (cons_eq (slot_eq (I_eq (iadd_one (i := i) (by omega)))) rfl)), rfl, rfl, rfl⟩
    have t5 : (!ieq (c.toNat : Int) (Int.ofNat 46)) = true := by rw [ieq_nc 46 rfl h5]; rfl
    by_cases h6 : c = 48
    · have t6 : (!ieq (c.toNat : Int) (Int.ofNat 48)) = false := by rw [ieq_c 48 rfl h6]; rfl
      repeat' ((first | refine vb_t rfl ?_ | refine vb_f rfl ?_ | refine vb_t (by assumption) ?_ | refine vb_f (by assumption) ?_ | refine vo_i hg ?_ | refine vor_l ?_ | fail) <;> conv => whnf)
      exact ⟨⟨i + 1, by omega, hnx (by rw [h6]; rfl)⟩, by simp only; omega, cons_eq rfl (cons_eq rfl (cons_eq (slot_eq (I_eq (iadd_one (i := i) (by omega)))) rfl)), rfl, rfl, rfl⟩
    have t6 : (!ieq (c.toNat : Int) (Int.ofNat 48)) = true := by rw [ieq_nc 48 rfl h6]; rfl
    have hcut : ¬ isCut c.toNat = true := fun h => by
      unfold isCut at h
      simp only [Bool.or_eq_true, Nat.beq_eq_true_eq] at h
      rcases h with ((h | h) | h) | h
      · exact h3 (UInt8.toNat_inj.1 (Nat.eq_of_beq_eq_true h))
      · exact h4 (UInt8.toNat_inj.1 (Nat.eq_of_beq_eq_true h))
      · exact h5 (UInt8.toNat_inj.1 (Nat.eq_of_beq_eq_true h))
      · exact h6 (UInt8.toNat_inj.1 (Nat.eq_of_beq_eq_true h))
    rw [if_neg hcut] at hno
    repeat' ((first | refine vb_t rfl ?_ | refine vb_f rfl ?_ | refine vb_t (by assumption) ?_ | refine vb_f (by assumption) ?_ | refine vo_i hg ?_ | refine vor_l ?_ | fail) <;> conv => whnf)
    exact ⟨congrArg CR.ret (congrArg AV.d (congrArg DV.bool hno)), rfl⟩
  · have q1 : ilt (i : Int) (s.length : Int) = false := by rw [ilt_f]; omega
    rw [List.drop_eq_nil_of_le (by omega)] at hno
    repeat' ((first | refine vb_t rfl ?_ | refine vb_f rfl ?_ | refine vb_t (by assumption) ?_ | refine vb_f (by assumption) ?_ | refine vor_l ?_ | fail) <;> conv => whnf)
    exact ⟨congrArg CR.ret (congrArg AV.d (congrArg DV.bool hno)), rfl⟩
end Go.Proofs.YtjeblkicgmmhiaaGreatDoor.Ab
namespace Go.Proofs.YtjeblkicgmmhiaaGreatDoor.Ab
open Go
set_option linter.unusedSimpArgs false
set_option maxRecDepth 100000
set_option linter.unusedVariables false
set_option maxHeartbeats 4000000
theorem rfeature_ok (t : Tok) (ht : tokOk t) : Pur F0 84 [tokA t] [] .no (.ret (B (featB t))) .no := by
  obtain ⟨h1, h2⟩ := ht
  have a1 := any_ok t.text featDim (by omega) (by decide) (by decide)
  have a2 := any_ok t.text featFn (by omega) (by decide) (by decide)
  have a3 := any_ok t.text featId (by omega) (by decide) (by decide)
  refine pur_code code84_ok ?_
  conv => whnf
  unfold featB
  by_cases k5 : t.kind = 5
  · have q5 : ieq t.kind (Int.ofNat 5) = true := by rw [ieq_t]; exact k5
    rw [if_pos k5]
    repeat' ((first | refine vb_t rfl ?_ | refine vb_f rfl ?_ | refine vb_t (by assumption) ?_ | refine vb_f (by assumption) ?_ | refine vpur_i a1 ?_ | refine vor_l ?_ | fail) <;> conv => whnf)
    exact ⟨rfl, rfl⟩
  have q5 : ieq t.kind (Int.ofNat 5) = false := by rw [ieq_f]; exact k5
  rw [if_neg k5]
  by_cases k2 : t.kind = 2
  · have q2 : ieq t.kind (Int.ofNat 2) = true := by rw [ieq_t]; exact k2
    rw [if_pos k2]
    repeat' ((first | refine vb_t rfl ?_ | refine vb_f rfl ?_ | refine vb_t (by assumption) ?_ | refine vb_f (by assumption) ?_ | refine vpur_i a2 ?_ | refine vor_l ?_ | fail) <;> conv => whnf)
    exact ⟨rfl, rfl⟩
  have q2 : ieq t.kind (Int.ofNat 2) = false := by rw [ieq_f]; exact k2
  rw [if_neg k2]
  by_cases k1 : t.kind = 1
  · have q1 : ieq t.kind (Int.ofNat 1) = true := by rw [ieq_t]; exact k1
    rw [if_pos k1]
    repeat' ((first | refine vb_t rfl ?_ | refine vb_f rfl ?_ | refine vb_t (by assumption) ?_ | refine vb_f (by assumption) ?_ | refine vpur_i a3 ?_ | refine vor_l ?_ | fail) <;> conv => whnf)
    exact ⟨rfl, rfl⟩
  have q1 : ieq t.kind (Int.ofNat 1) = false := by rw [ieq_f]; exact k1
  rw [if_neg k1]
  repeat' ((first | refine vb_t rfl ?_ | refine vb_f rfl ?_ | refine vb_t (by assumption) ?_ | refine vb_f (by assumption) ?_ | refine vor_l ?_ | fail) <;> conv => whnf)
  exact ⟨rfl, rfl⟩
def kwTab : List (List UInt8) := [[97, 117, 116, 111], [], [], [109, 105, 110, 45, 99, 111, 110, 116, 101, 110, 116], [109, 97, 120, 45, 99, 111, 110, 116, 101, 110, 116], [], [110, 111, 110, 101]]
def noTab (s : List UInt8) (i : Nat) : Prop := ∀ j w, j < i → kwTab[j]? = some w → w ≠ [] → lower s ≠ w
theorem tab_hit {s w : List UInt8} {i : Nat} (hi : kwTab[i]? = some w) (hne : w ≠ []) (hm : lower s = w) : kwKind s = ((i + 1 : Nat) : Int) := by
  have hl : i < 7 := (List.getElem?_eq_some_iff.1 hi).1
  have : i = 0 ∨ i = 1 ∨ i = 2 ∨ i = 3 ∨ i = 4 ∨ i = 5 ∨ i = 6 := by omega
  rcases this with rfl | rfl | rfl | rfl | rfl | rfl | rfl <;> (cases hi; first | exact (hne rfl).elim | (unfold kwKind; rw [hm]; rfl))
theorem tab_none {s : List UInt8} (h : noTab s 7) : kwKind s = 0 := by
  have h1 := h 0 _ (by decide) rfl (by decide)
  have h4 := h 3 _ (by decide) rfl (by decide)
  have h5 := h 4 _ (by decide) rfl (by decide)
  have h7 := h 6 _ (by decide) rfl (by decide)
  unfold kwKind
  rw [if_neg h1, if_neg h4, if_neg h5, if_neg h7]
theorem tab_low : ∀ w ∈ kwTab, lower w = w ∧ w.length ≤ 11 := by decide
theorem noTab_succ {s w : List UInt8} {i : Nat} (h : noTab s i) (hi : kwTab[i]? = some w) (hn : w ≠ [] → lower s ≠ w) : noTab s (i + 1) := fun j w' hj hw hne => by
  by_cases e : j = i
  · subst e
    rw [hi] at hw
    cases hw
    exact hn hne
  · exact h j w' (by omega) hw hne
theorem rkind_ok (t : Tok) (ht : tokOk t) : Pur F0 85 [tokA t] [] .no (.ret (.tup [I (shapeS t).1, I ((shapeS t).2 : Nat)])) .no := by
  obtain ⟨h1, h2⟩ := ht
  have l1 : lower [112, 120] = [112, 120] := by decide
  have l2 : lower [102, 114] = [102, 114] := by decide
  have i1 := ris_ok t.text [112, 120] (by omega) (by decide)
  have i2 := ris_ok t.text [102, 114] (by omega) (by decide)
  have n1 := rnought_ok t.num (by omega)
  rw [l1] at i1
  rw [l2] at i2
  refine pur_code code85_ok ?_
  conv => whnf
  by_cases k5 : t.kind = 5
  · have q5 : ieq t.kind (Int.ofNat 5) = true := by rw [ieq_t]; exact k5
    by_cases hp : lower t.text = [112, 120]
    · have qp : seq (lower t.text) [112, 120] = true := by rw [seq_t]; exact hp
      have hS : shapeS t = (2, 64) := by unfold shapeS; rw [if_pos k5, if_pos hp]
      rw [hS]
      repeat' ((first | refine vb_t rfl ?_ | refine vb_f rfl ?_ | refine vb_t (by assumption) ?_ | refine vb_f (by assumption) ?_ | refine vpur_i i1 ?_ | refine vor_l ?_ | fail) <;> conv => whnf)
      exact ⟨rfl, rfl⟩
    have qp : seq (lower t.text) [112, 120] = false := by rw [seq_f]; exact hp
    by_cases hf : lower t.text = [102, 114]
    · have qf : seq (lower t.text) [102, 114] = true := by rw [seq_t]; exact hf
      have hS : shapeS t = (6, 1000) := by unfold shapeS; rw [if_pos k5, if_neg hp, if_pos hf]
      rw [hS]
      repeat' ((first | refine vb_t rfl ?_ | refine vb_f rfl ?_ | refine vb_t (by assumption) ?_ | refine vb_f (by assumption) ?_ | refine vpur_i i1 ?_ | refine vpur_i i2 ?_ | refine vor_l ?_ | fail) <;> conv => whnf)
      exact ⟨rfl, rfl⟩
    have qf : seq (lower t.text) [102, 114] = false := by rw [seq_f]; exact hf
    have hS : shapeS t = (0, 0) := by unfold shapeS; rw [if_pos k5, if_neg hp, if_neg hf]
    rw [hS]
    repeat' ((first | refine vb_t rfl ?_ | refine vb_f rfl ?_ | refine vb_t (by assumption) ?_ | refine vb_f (by assumption) ?_ | refine vpur_i i1 ?_ | refine vpur_i i2 ?_ | refine vor_l ?_ | fail) <;> conv => whnf)
    exact ⟨rfl, rfl⟩
  have q5 : ieq t.kind (Int.ofNat 5) = false := by rw [ieq_f]; exact k5
  by_cases k4 : t.kind = 4
  · have q4 : ieq t.kind (Int.ofNat 4) = true := by rw [ieq_t]; exact k4
    have hS : shapeS t = (3, 1000) := by unfold shapeS; rw [if_neg k5, if_pos k4]
    rw [hS]
    repeat' ((first | refine vb_t rfl ?_ | refine vb_f rfl ?_ | refine vb_t (by assumption) ?_ | refine vb_f (by assumption) ?_ | refine vor_l ?_ | fail) <;> conv => whnf)
    exact ⟨rfl, rfl⟩
  have q4 : ieq t.kind (Int.ofNat 4) = false := by rw [ieq_f]; exact k4
  by_cases k3 : t.kind = 3
  · have q3 : ieq t.kind (Int.ofNat 3) = true := by rw [ieq_t]; exact k3
    by_cases hn : noughtS t.num = true
    · have hS : shapeS t = (2, 0) := by unfold shapeS; rw [if_neg k5, if_neg k4, if_pos k3, if_pos hn]
      rw [hS]
      rw [hn] at n1
      repeat' ((first | refine vb_t rfl ?_ | refine vb_f rfl ?_ | refine vb_t (by assumption) ?_ | refine vb_f (by assumption) ?_ | refine vpur_i n1 ?_ | refine vor_l ?_ | fail) <;> conv => whnf)
      exact ⟨rfl, rfl⟩
    · have hS : shapeS t = (0, 0) := by unfold shapeS; rw [if_neg k5, if_neg k4, if_pos k3, if_neg hn]
      rw [hS]
      rw [Bool.not_eq_true] at hn
      rw [hn] at n1
      repeat' ((first | refine vb_t rfl ?_ | refine vb_f rfl ?_ | refine vb_t (by assumption) ?_ | refine vb_f (by assumption) ?_ | refine vpur_i n1 ?_ | refine vor_l ?_ | fail) <;> conv => whnf)
      exact ⟨rfl, rfl⟩
  have q3 : ieq t.kind (Int.ofNat 3) = false := by rw [ieq_f]; exact k3
  by_cases k1 : t.kind = 1
  case neg =>
    have q1 : ieq t.kind (Int.ofNat 1) = false := by rw [ieq_f]; exact k1
    have hS : shapeS t = (0, 0) := by unfold shapeS; rw [if_neg k5, if_neg k4, if_neg k3, if_neg k1]
    rw [hS]
    repeat' ((first | refine vb_t rfl ?_ | refine vb_f rfl ?_ | refine vb_t (by assumption) ?_ | refine vb_f (by assumption) ?_ | refine vor_l ?_ | fail) <;> conv => whnf)
    exact ⟨rfl, rfl⟩
  have q1 : ieq t.kind (Int.ofNat 1) = true := by rw [ieq_t]; exact k1
  have hS : shapeS t = (kwKind t.text, 0) := by unfold shapeS; rw [if_neg k5, if_neg k4, if_neg k3, if_pos k1]
  rw [hS]
  clear i1 i2 n1 hS
  repeat' ((first | refine vb_t rfl ?_ | refine vb_f rfl ?_ | refine vb_t (by assumption) ?_ | refine vb_f (by assumption) ?_ | refine vor_l ?_ | fail) <;> conv => whnf)
  refine vloop_by (σ := { i : Nat // i ≤ 7 ∧ noTab t.text i }) (fun i => [(1, .ptr 0 0), (2, I (Int.ofNat 0)), (3, I (Int.ofNat 0)), (4, .osl 1 0 0 7), (5, I (i.1 : Int))])
    (fun _ => [⟨.mine, 72, .fix [I t.kind, I t.at_, S t.text, S t.num]⟩, ⟨.mine, 9, .arr false 0 1 (kwTab.map wsRow)⟩]) (fun i => 7 - i.1) ?_ ⟨0, by decide, fun j w h => by omega⟩
  rintro ⟨i, hi, hno⟩
  conv => whnf
  by_cases hlt : i < 7
  · have q6 : ilt (i : Int) ((7 : Nat) : Int) = true := by rw [ilt_t]; omega
    obtain ⟨w, hw⟩ : ∃ w, kwTab[i]? = some w := ⟨kwTab[i]'hlt, List.getElem?_eq_getElem hlt⟩
    obtain ⟨lw, ll⟩ := tab_low w (List.mem_of_getElem? hw)
    have hr : iget (((kwTab.map wsRow).take 7).drop 0) (i : Int) = some (wsRow w) := ws_row kwTab i hw
    have hr2 : (kwTab.map wsRow)[0 + ((i : Int)).toNat]? = some (wsRow w) := by rw [Int.toNat_natCast, Nat.zero_add, List.getElem?_map, hw]; rfl
    have iw := ris_ok t.text w (by omega) (by omega)
    rw [lw] at iw
    by_cases hne : w = []
    · have q7 : (!seq w []) = false := by rw [seq_t.mpr hne]; rfl
      repeat' ((first | refine vb_t rfl ?_ | refine vb_f rfl ?_ | refine vb_t (by assumption) ?_ | refine vb_f (by assumption) ?_ | refine vo_i hr ?_ | refine vo_i hr2 ?_ | refine vor_l ?_ | fail) <;> conv => whnf)
      exact ⟨⟨i + 1, by omega, noTab_succ hno hw fun h => (h hne).elim⟩, by simp only; omega, cons_eq rfl (cons_eq rfl (cons_eq rfl (cons_eq rfl (cons_eq (slot_eq (I_eq (iadd_one (i := i) (by omega)))) rfl)))), rfl, rfl, rfl⟩
    · have q7 : (!seq w []) = true := by rw [seq_f.mpr hne]; rfl
      by_cases hm : lower t.text = w
      · have q8 : seq (lower t.text) w = true := by rw [seq_t]; exact hm
        repeat' ((first | refine vb_t rfl ?_ | refine vb_f rfl ?_ | refine vb_t (by assumption) ?_ | refine vb_f (by assumption) ?_ | refine vo_i hr ?_ | refine vo_i hr2 ?_ | refine vpur_i iw ?_ | refine vor_l ?_ | fail) <;> conv => whnf)
        exact ⟨congrArg CR.ret (by rw [tab_hit hw hne hm]; show AV.tup [I (iadd .i64 (i : Int) (Int.ofNat 1)), _] = _; rw [iadd_one (by omega)]; rfl), rfl⟩
      · have q8 : seq (lower t.text) w = false := by rw [seq_f]; exact hm
        repeat' ((first | refine vb_t rfl ?_ | refine vb_f rfl ?_ | refine vb_t (by assumption) ?_ | refine vb_f (by assumption) ?_ | refine vo_i hr ?_ | refine vo_i hr2 ?_ | refine vpur_i iw ?_ | refine vor_l ?_ | fail) <;> conv => whnf)
        exact ⟨⟨i + 1, by omega, noTab_succ hno hw fun _ => hm⟩, by simp only; omega, cons_eq rfl (cons_eq rfl (cons_eq rfl (cons_eq rfl (cons_eq (slot_eq (I_eq (iadd_one (i := i) (by omega)))) rfl)))), rfl, rfl, rfl⟩
  · obtain rfl : i = 7 := by omega
    have q6 : ilt ((7 : Nat) : Int) ((7 : Nat) : Int) = false := by rw [ilt_f]; omega
    repeat' ((first | refine vb_t rfl ?_ | refine vb_f rfl ?_ | refine vb_t (by assumption) ?_ | refine vb_f (by assumption) ?_ | refine vor_l ?_ | fail) <;> conv => whnf)
    exact ⟨by rw [tab_none hno]; rfl, rfl⟩
end Go.Proofs.YtjeblkicgmmhiaaGreatDoor.Ab

