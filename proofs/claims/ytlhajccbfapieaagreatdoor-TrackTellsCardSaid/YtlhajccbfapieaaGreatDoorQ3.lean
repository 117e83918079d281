/- Some texts as one, one behind the other; what is not leaned on is left out. -/
import Derived.Test.YtlhajccbfapieaaGreatDoorQ2
import Derived.Test.YtlhajccbfapieaaGreatDoorC00q
import Derived.Test.YtlhajccbfapieaaGreatDoorQ1
import Derived.Test.YtlhajccbfapieaaGreatDoorAbTy
import Derived.Lib.ItoaLen
set_option linter.unusedSimpArgs false
set_option linter.unusedVariables false
namespace Go.Proofs.YtlhajccbfapieaaGreatDoor.Ab
open Go
set_option linter.unusedSimpArgs false
set_option maxRecDepth 100000
set_option linter.unusedVariables false
set_option maxHeartbeats 4000000
end Go.Proofs.YtlhajccbfapieaaGreatDoor.Ab
namespace Go.Proofs.YtlhajccbfapieaaGreatDoor.Ab
open Go
set_option linter.unusedSimpArgs false
set_option maxRecDepth 100000
set_option linter.unusedVariables false
set_option maxHeartbeats 4000000
end Go.Proofs.YtlhajccbfapieaaGreatDoor.Ab
namespace Go.Proofs.YtlhajccbfapieaaGreatDoor.Ab
open Go
set_option linter.unusedSimpArgs false
set_option maxRecDepth 100000
set_option linter.unusedVariables false
set_option maxHeartbeats 4000000
end Go.Proofs.YtlhajccbfapieaaGreatDoor.Ab
namespace Go.Proofs.YtlhajccbfapieaaGreatDoor.Ab
open Go
set_option linter.unusedSimpArgs false
set_option maxRecDepth 100000
set_option linter.unusedVariables false
set_option maxHeartbeats 4000000
theorem lower_length (s : List UInt8) : (lower s).length = s.length := by unfold lower; simp
theorem rlow_up {c : UInt8} (h1 : 65 ≤ c.toNat) (h2 : c.toNat ≤ 90) : iadd .u8 (isub .u8 (c.toNat : Int) (Int.ofNat 65)) (Int.ofNat 97) = ((low c).toNat : Int) := by
 have e : low c = c + 32 := by unfold low; rw [if_pos ⟨h1, h2⟩]
 have e2 : (c + 32).toNat = c.toNat + 32 := by rw [UInt8.toNat_add]; have : (32 : UInt8).toNat = 32 := rfl; omega
 rw [e, e2]
 unfold iadd isub
 simp only [IntKind.wrap, IntKind.signed, IntKind.bits, Bool.false_and, Bool.false_eq_true, if_false, ofn]
 omega
theorem byteText (c : UInt8) : textOf [[DV.int .u8 (c.toNat : Int)]] = some [c] := by
 have := c.toNat_lt
 show textOf [byteRow c] = some [c]
 exact textOf_bytes [c]
theorem rlower_ok (s : List UInt8) (hs : s.length ≤ 1000000) : Pur F0 142 [S s] [] .no (.ret (S (lower s))) .no := by
 refine pur_code code142_ok ?_
 conv => whnf
 refine vloop_by (σ := { i : Nat // i ≤ s.length }) (fun i => [(0, S s), (2, S []), (3, S (lower (s.take i.1))), (4, I (i.1 : Int))]) (fun _ => []) (fun i => s.length - i.1) ?_ ⟨0, Nat.zero_le _⟩
 rintro ⟨i, hi⟩
 conv => whnf
 by_cases hlt : i < s.length
 · have q1 : ilt (i : Int) (s.length : Int) = true := by rw [ilt_t]; omega
   obtain ⟨c, hc⟩ : ∃ c, s[i]? = some c := ⟨s[i], List.getElem?_eq_getElem hlt⟩
   have hg : iget s (i : Int) = some c := iget_t hc
   have hnx : lower (s.take (i + 1)) = lower (s.take i) ++ [low c] := by
    unfold lower; rw [List.take_add_one, hc, List.map_append]; rfl
   have hll : (lower (s.take i)).length ≤ 1000000 := by rw [lower_length, List.length_take]; omega
   by_cases hu : 65 ≤ c.toNat ∧ c.toNat ≤ 90
   · have q2 : ile (Int.ofNat 65) (c.toNat : Int) = true := by rw [ile_t, ofn]; omega
     have q3 : ile (c.toNat : Int) (Int.ofNat 90) = true := by rw [ile_t, ofn]; omega
     have hb : textOf [[DV.int .u8 (iadd .u8 (isub .u8 (c.toNat : Int) (Int.ofNat 65)) (Int.ofNat 97))]] = some [low c] := by rw [rlow_up hu.1 hu.2]; exact byteText _
     repeat' ((first | refine bt ?_ | refine bf ?_ | refine vo_i hg ?_ | refine vo_i hb ?_ | refine vb_t (roomS_t (by simp <;> omega)) ?_ | refine vl ?_ | fail) <;> conv => whnf)
     exact ⟨⟨i + 1, by omega⟩, by simp only; omega, cons_eq rfl (cons_eq rfl (cons_eq (slot_eq (S_eq hnx.symm)) (cons_eq (slot_eq (I_eq (iadd_one (i := i) (by omega)))) rfl))), rfl, rfl, rfl⟩
   · have hl : low c = c := by unfold low; rw [if_neg hu]
     have hb : textOf [[DV.int .u8 (c.toNat : Int)]] = some [low c] := by rw [hl]; exact byteText _
     by_cases h1 : 65 ≤ c.toNat
     · have q2 : ile (Int.ofNat 65) (c.toNat : Int) = true := by rw [ile_t, ofn]; omega
       have q3 : ile (c.toNat : Int) (Int.ofNat 90) = false := by rw [ile_f, ofn]; omega
       repeat' ((first | refine bt ?_ | refine bf ?_ | refine vo_i hg ?_ | refine vo_i hb ?_ | refine vb_t (roomS_t (by simp <;> omega)) ?_ | refine vl ?_ | fail) <;> conv => whnf)
       exact ⟨⟨i + 1, by omega⟩, by simp only; omega, cons_eq rfl (cons_eq rfl (cons_eq (slot_eq (S_eq hnx.symm)) (cons_eq (slot_eq (I_eq (iadd_one (i := i) (by omega)))) rfl))), rfl, rfl, rfl⟩
     · have q2 : ile (Int.ofNat 65) (c.toNat : Int) = false := by rw [ile_f, ofn]; omega
       repeat' ((first | refine bt ?_ | refine bf ?_ | refine vo_i hg ?_ | refine vo_i hb ?_ | refine vb_t (roomS_t (by simp <;> omega)) ?_ | refine vl ?_ | fail) <;> conv => whnf)
       exact ⟨⟨i + 1, by omega⟩, by simp only; omega, cons_eq rfl (cons_eq rfl (cons_eq (slot_eq (S_eq hnx.symm)) (cons_eq (slot_eq (I_eq (iadd_one (i := i) (by omega)))) rfl))), rfl, rfl, rfl⟩
 · have q1 : ilt (i : Int) (s.length : Int) = false := by rw [ilt_f]; omega
   repeat' ((first | refine bt ?_ | refine bf ?_ | refine vl ?_ | fail) <;> conv => whnf)
   exact ⟨congrArg CR.ret (S_eq (by show lower (s.take i) = lower s; rw [List.take_of_length_le (by omega)])), rfl⟩
theorem ris_ok (s k : List UInt8) (hs : s.length ≤ 1000000) (hk : k.length ≤ 1000000) : Pur F0 120 [S s, S k] [] .no (.ret (B (seq (lower s) (lower k)))) .no := by
 refine pur_code code120_ok ?_
 conv => whnf
 repeat' ((first | refine bt ?_ | refine bf ?_ | refine vpur_i (rlower_ok s hs) ?_ | refine vpur_i (rlower_ok k hk) ?_ | refine vl ?_ | fail) <;> conv => whnf)
 exact ⟨rfl, rfl⟩
def wsRow (s : List UInt8) : List DV := [.str s]
end Go.Proofs.YtlhajccbfapieaaGreatDoor.Ab
namespace Go.Proofs.YtlhajccbfapieaaGreatDoor.Ab
open Go Go.ChangeShapes Go.WideShapes Go.RowKit
set_option linter.unusedSimpArgs false
set_option maxRecDepth 100000
set_option linter.unusedVariables false
def SlV (sz : Nat) (rows : List (List DV)) (v : DV) : Prop := (v = .nilsl ∧ rows = []) ∨ v = .sl sz rows
inductive Pc where
 | mk (kind : Int) (vn : DV) (names : List (List UInt8)) (t : Trk) (count : Int) (vi : DV) (inner : List Pc)
 deriving Inhabited
def Pc.kind : Pc → Int
 | .mk k _ _ _ _ _ _ => k
def Pc.names : Pc → List (List UInt8)
 | .mk _ _ n _ _ _ _ => n
def Pc.t : Pc → Trk
 | .mk _ _ _ t _ _ _ => t
def Pc.count : Pc → Int
 | .mk _ _ _ _ c _ _ => c
def Pc.inner : Pc → List Pc
 | .mk _ _ _ _ _ _ i => i
def pcRow : Pc → List DV
 | .mk k vn _ t c vi _ => [.int .i64 k, vn, .int .i64 t.ak, .int .i64 t.an, .int .i64 t.bk, .int .i64 t.bn, .bool t.fit, .int .i64 t.lk, .int .i64 t.ln, .int .i64 c, vi]
inductive PcOk : Pc → Prop
 | mk {k : Int} {vn : DV} {names : List (List UInt8)} {t : Trk} {c : Int} {vi : DV} {inner : List Pc} (hn : SlV 1 (names.map wsRow) vn) (hi : SlV 11 (inner.map pcRow) vi) (h : ∀ q ∈ inner, PcOk q) : PcOk (.mk k vn names t c vi inner)
theorem trk_of {d : Nat} {xs : List DV} (h : Shape Tryz.prog d 25 xs) : ∃ t : Trk, xs = trkRow t := by
 cases d with
 | zero => exact h.elim
 | succ d =>
  rw [Shape, Tryz.underlying25] at h
  obtain ⟨x0, r0, rfl, h0, x1, r1, rfl, h1, x2, r2, rfl, h2, x3, r3, rfl, h3, rfl⟩ := h
  obtain ⟨a, b, rfl⟩ := len_of h0
  obtain ⟨c, e, rfl⟩ := len_of h1
  obtain ⟨f, rfl⟩ := bool_of h2
  obtain ⟨g, i, rfl⟩ := len_of h3
  exact ⟨⟨a, b, c, e, f, g, i⟩, rfl⟩
theorem arg_trk (t : Trk) : argA Tryz.prog 25 (trkRow t) = trkA t := by simp only [argA, Tryz.underlying25]; rfl
theorem cellsStr : Tryz.prog.cellsOf 9 = 1 := by kernel_rfl
theorem strRows_of {d : Nat} : ∀ {rows : List (List DV)}, (∀ row ∈ rows, Shape Tryz.prog d 9 row) → ∃ l : List (List UInt8), rows = l.map wsRow
 | [], _ => ⟨[], rfl⟩
 | row :: rows, h => by
  obtain ⟨s, rfl, _⟩ := string_of (h row (List.mem_cons_self ..))
  obtain ⟨l, rfl⟩ := strRows_of fun r hr => h r (List.mem_cons_of_mem _ hr)
  exact ⟨s :: l, rfl⟩
theorem strs_of {d : Nat} {xs : List DV} (h : Shape Tryz.prog d 44 xs) : ∃ (l : List (List UInt8)) (v : DV), SlV 1 (l.map wsRow) v ∧ xs = [v] := by
 cases d with
 | zero => exact h.elim
 | succ d =>
  rw [Shape, Tryz.underlying44] at h
  rcases h with rfl | ⟨rows, rfl, hr, _⟩
  · exact ⟨[], .nilsl, .inl ⟨rfl, rfl⟩, rfl⟩
  · obtain ⟨l, rfl⟩ := strRows_of hr
    rw [cellsStr]
    exact ⟨l, _, .inr rfl, rfl⟩
theorem cellsPc : Tryz.prog.cellsOf 46 = 11 := by kernel_rfl
theorem pcRows_of {d : Nat} (ih : ∀ row, Shape Tryz.prog d 46 row → ∃ p, row = pcRow p ∧ PcOk p) : ∀ {rows : List (List DV)}, (∀ row ∈ rows, Shape Tryz.prog d 46 row) → ∃ l : List Pc, rows = l.map pcRow ∧ ∀ p ∈ l, PcOk p
 | [], _ => ⟨[], rfl, fun p h => by cases h⟩
 | row :: rows, h => by
  obtain ⟨s, rfl, hs⟩ := ih row (h row (List.mem_cons_self ..))
  obtain ⟨l, rfl, hl⟩ := pcRows_of ih fun r hr => h r (List.mem_cons_of_mem _ hr)
  refine ⟨s :: l, rfl, fun p hp => ?_⟩
  rcases List.mem_cons.1 hp with rfl | hp
  · exact hs
  · exact hl p hp
theorem pieces_gen {d : Nat} (ih : ∀ d', d' < d → ∀ row, Shape Tryz.prog d' 46 row → ∃ p, row = pcRow p ∧ PcOk p) {xs : List DV} (h : Shape Tryz.prog d 26 xs) : ∃ (l : List Pc) (v : DV), SlV 11 (l.map pcRow) v ∧ (∀ p ∈ l, PcOk p) ∧ xs = [v] ∧ l.length ≤ maxLen := by
 cases d with
 | zero => exact h.elim
 | succ d =>
  rw [Shape, Tryz.underlying26] at h
  rcases h with rfl | ⟨rows, rfl, hr, hl⟩
  · exact ⟨[], .nilsl, .inl ⟨rfl, rfl⟩, (fun p h => by cases h), rfl, Nat.zero_le _⟩
  · obtain ⟨l, rfl, hok⟩ := pcRows_of (ih d (Nat.lt_succ_self d)) hr
    rw [cellsPc]
    exact ⟨l, _, .inr rfl, hok, rfl, by simpa using hl⟩
theorem pc_of : ∀ (d : Nat) {row : List DV}, Shape Tryz.prog d 46 row → ∃ p, row = pcRow p ∧ PcOk p := by
 intro d
 induction d using Nat.strongRecOn with
 | ind d ih =>
  intro row h
  cases d with
  | zero => exact h.elim
  | succ d =>
   rw [Shape, Tryz.underlying46] at h
   obtain ⟨x0, r0, rfl, h0, x1, r1, rfl, h1, x2, r2, rfl, h2, x3, r3, rfl, h3, x4, r4, rfl, h4, rfl⟩ := h
   obtain ⟨k, rfl, _⟩ := int_of h0
   obtain ⟨names, vn, hn, rfl⟩ := strs_of h1
   obtain ⟨t, rfl⟩ := trk_of h2
   obtain ⟨c, rfl, _⟩ := int_of h3
   obtain ⟨inner, vi, hi, hok, rfl, _⟩ := pieces_gen (fun d' hd row => ih d' (by omega)) h4
   exact ⟨.mk k vn names t c vi inner, rfl, .mk hn hi hok⟩
theorem pieces_of {d : Nat} {xs : List DV} (h : Shape Tryz.prog d 26 xs) : ∃ (l : List Pc) (v : DV), SlV 11 (l.map pcRow) v ∧ (∀ p ∈ l, PcOk p) ∧ xs = [v] ∧ l.length ≤ maxLen := pieces_gen (fun d' _ row => pc_of d') h
theorem arg_pieces (x : DV) : argA Tryz.prog 26 [x] = .d x := by simp only [argA, Tryz.underlying26]
end Go.Proofs.YtlhajccbfapieaaGreatDoor.Ab
namespace Go.Proofs.YtlhajccbfapieaaGreatDoor.Ab
open Go
set_option linter.unusedSimpArgs false
set_option maxRecDepth 100000
set_option linter.unusedVariables false
set_option maxHeartbeats 4000000
def fracT (sc : Nat) : Nat → Nat → List UInt8
 | 0, _ => []
 | k + 1, l => if l = 0 then [] else Lib.decDigits (l * 10 / sc) ++ fracT sc k (l * 10 % sc)
def posText (m sc : Nat) : List UInt8 := Lib.decDigits (m / sc) ++ ((if 0 < m % sc then [46] else []) ++ fracT sc 6 (m % sc))
def isSc (n : Int) : Prop := n = 1 ∨ n = 64 ∨ n = 1000
instance (n : Int) : Decidable (isSc n) := by unfold isSc; infer_instance
def numText (n sc : Int) : List UInt8 := if isPx n = true ∧ isSc sc then (if n < 0 then [45] else []) ++ posText n.natAbs sc.toNat else []
theorem itoa_nat (u : Nat) : Lib.itoa (u : Int) = Lib.decDigits u := by unfold Lib.itoa; rw [if_neg (by omega)]; simp
theorem dec_le (u : Nat) (h : u < 18446744073709551616) : (Lib.decDigits u).length ≤ 20 := by rw [Lib.decDigits_length]; exact Lib.nDigits_le20 u h
theorem itoa_ok (u : Nat) (hu : u ≤ 4611686018427387904) (h : Heap) : Pur F0 66 [I u] h .no (.ret (S (Lib.decDigits u))) .no := by
 refine pur_known (g := kItoa) (by kernel_rfl) ?_
 unfold kItoa
 have : (decide (-9223372036854775808 ≤ (u : Int)) && decide ((u : Int) ≤ 9223372036854775807)) = true := by simp; omega
 simp only [this, itoa_nat]
theorem itoa_ok' {x : Int} {u : Nat} (hx : x = u) (hu : u ≤ 4611686018427387904) (h : Heap) : Pur F0 66 [I x] h .no (.ret (S (Lib.decDigits u))) .no := by subst hx; exact itoa_ok u hu h
theorem i_in {x : Int} (h1 : -9223372036854775808 ≤ x) (h2 : x ≤ 9223372036854775807) : IntKind.wrap .i64 x = x := IntWalk.i64_in _ ⟨h1, h2⟩
theorem i_quo {a b : Nat} (ha : a ≤ 4611686018427387904) : iquo .i64 (a : Int) (b : Int) = ((a / b : Nat) : Int) := by
 unfold iquo
 have e : ((a : Int).tdiv (b : Int)) = ((a / b : Nat) : Int) := rfl
 have := Nat.div_le_self a b
 rw [e]
 generalize a / b = q at *
 rw [i_in (by omega) (by omega)]
theorem i_mulr {a : Nat} (h : a ≤ 1000000) : imul .i64 (a : Int) (Int.ofNat 10) = ((a * 10 : Nat) : Int) := by rw [n_ofn, imul64 (by omega) (by omega), Int.natCast_mul]
theorem i_mull {a : Nat} (h : a ≤ 1000000) : imul .i64 (Int.ofNat 10) (a : Int) = ((a * 10 : Nat) : Int) := by rw [n_ofn, imul64 (by omega) (by omega), ← Int.natCast_mul, Nat.mul_comm]
theorem frac_zero (k f : Nat) : fracT k f 0 = [] := by cases f <;> simp [fracT]
theorem frac_succ (k f l : Nat) (h : l ≠ 0) : fracT k (f + 1) l = Lib.decDigits (l * 10 / k) ++ fracT k f (l * 10 % k) := by simp [fracT, h]
theorem pow_mod (k f l : Nat) (h : l * 10 ^ (f + 1) % k = 0) : l * 10 % k * 10 ^ f % k = 0 := by
 rw [Nat.mul_mod, Nat.mod_mod, ← Nat.mul_mod, Nat.mul_assoc, ← Nat.pow_succ']
 exact h
theorem pow_first (k l : Nat) (hk : k = 1 ∨ k = 64 ∨ k = 1000) : l * 10 ^ 6 % k = 0 := by
 rcases hk with rfl | rfl | rfl <;> omega
theorem dig_small (l k : Nat) (h : l < k) : (Lib.decDigits (l * 10 / k)).length ≤ 20 := by
 have : l * 10 / k < 10 := by apply Nat.div_lt_of_lt_mul; rw [Nat.mul_comm]; omega
 exact dec_le _ (by omega)
theorem ndText_ok (n sc : Int) : Pur F0 58 [I n, I sc] [] .no (.ret (S (numText n sc))) .no := by
 by_cases hg : isPx n = true ∧ isSc sc
 · obtain ⟨hp, hsc⟩ := hg
   obtain ⟨k, rfl⟩ : ∃ k : Nat, sc = (k : Int) := ⟨sc.toNat, by unfold isSc at hsc; omega⟩
   have hk : k = 1 ∨ k = 64 ∨ k = 1000 := by unfold isSc at hsc; omega
   have hN : numText n k = (if n < 0 then [45] else []) ++ (Lib.decDigits (n.natAbs / k) ++ ((if 0 < n.natAbs % k then [46] else []) ++ fracT k 6 (n.natAbs % k))) := by
    unfold numText; rw [if_pos ⟨hp, hsc⟩]; rfl
   have hb : -68719476736 ≤ n ∧ n ≤ 68719476736 := by simpa [isPx] using hp
   obtain ⟨m, hm0⟩ : ∃ m : Nat, n.natAbs = m := ⟨_, rfl⟩
   have hmb : m ≤ 68719476736 := by omega
   rw [hm0] at hN
   refine pur_code (cf := cfn Tryz.f58) (by kernel_rfl) ?_
   conv => arg 3; reduce
   conv => whnf
   have q1 : (!isPx n) = false := by rw [hp]; rfl
   have q2 : (!decide ((k : Int) = 1 ∨ (k : Int) = 64 ∨ (k : Int) = 1000)) = false := by simp; unfold isSc at hsc; omega
   have q4 : iz (k : Int) = false := iz_u (by omega)
   by_cases hn : n < 0
   · rw [if_pos hn] at hN
     have q3 : ilt n (Int.ofNat 0) = true := by rw [ilt_t]; exact hn
     have hmm : isub .i64 0 n = (m : Int) := by rw [isub64 (by omega) (by omega)]; omega
     repeat' ((first | refine bt ?_ | refine bf ?_ | refine vpur_i (fixedIs_ok _) ?_ | refine vpur_i (isScale_ok _) ?_ | refine vl ?_ | fail) <;> conv => whnf)
     have hx0 : iquo .i64 (isub .i64 0 n) (k : Int) = ((m / k : Nat) : Int) := by rw [hmm, i_quo (by omega)]
     have hr0 : irem (isub .i64 0 n) (k : Int) = ((m % k : Nat) : Int) := by rw [hmm, u_rem]
     have hmk : m / k ≤ m := Nat.div_le_self _ _
     have hd0 := dec_le (m / k) (by omega)
     have hlk0 : m % k < k := Nat.mod_lt _ (by omega)
     by_cases hl : 0 < m % k
     · have q5 : ilt (Int.ofNat 0) (irem (isub .i64 0 n) (k : Int)) = true := by rw [hr0, ilt_t]; simp only [Int.ofNat_eq_natCast]; omega
       repeat' ((first | refine bt ?_ | refine bf ?_ | refine vpur_i (itoa_ok' hx0 (by omega) []) ?_ | refine vb_t (roomS_t (by simp; omega)) ?_ | refine vl ?_ | fail) <;> conv => whnf)
       rw [hr0]
       obtain ⟨l0, hl0⟩ : ∃ l0 : Nat, m % k = l0 := ⟨_, rfl⟩
       rw [if_pos hl, hl0] at hN
       rw [hl0] at hlk0 ⊢
       have hlk := hlk0
       have hl6 := pow_first k l0 hk
       obtain ⟨s0, hs⟩ : ∃ s0 : List UInt8, ([45] ++ Lib.decDigits (m / k)) ++ [46] = s0 := ⟨_, rfl⟩
       have hs0 : s0.length + 30 * 6 ≤ 400 := by rw [← hs]; simp; omega
       refine vloop_eq2 (fr' := [(1, I k), (4, S []), (5, S s0), (6, I l0)]) (h' := []) ?_ rfl ?_
       · subst hs; rfl
       obtain ⟨T, hTe⟩ : ∃ T : List UInt8, numText n k = T := ⟨_, rfl⟩
       have hT : s0 ++ fracT k 6 l0 = T := by rw [← hTe, hN, ← hs]; simp
       rw [hTe]
       refine vloop_by (σ := { x : List UInt8 × Nat × Nat // x.1 ++ fracT k x.2.2 x.2.1 = T ∧ x.2.1 < k ∧ x.2.1 * 10 ^ x.2.2 % k = 0 ∧ x.1.length + 30 * x.2.2 ≤ 400 }) (fun x => [(1, I k), (4, S []), (5, S x.1.1), (6, I x.1.2.1)]) (fun _ => []) (fun x => x.1.2.2) ?_ ⟨(s0, l0, 6), hT, hlk, hl6, hs0⟩
       rintro ⟨⟨s, l, f⟩, g1, g2, g3, g4⟩
       simp only at g1 g2 g3 g4
       conv => whnf
       refine vb_i (fun h => ?_) (fun h => ?_) <;> conv => whnf
       · have hl0 : l ≠ 0 := by (first | omega | (simp only [ilt_t, ilt_f, ile_t, ile_f, ieq_t, ieq_f, ofn, List.length_map, Bool.not_eq_true', Bool.not_eq_false'] at *; omega))
         cases f with
         | zero => exact absurd (by simpa [Nat.mod_eq_of_lt g2] using g3) hl0
         | succ f =>
          rw [frac_succ _ _ _ hl0] at g1
          have hm : imul .i64 (l : Int) (Int.ofNat 10) = ((l * 10 : Nat) : Int) := i_mulr (by omega)
          have hx : iquo .i64 (imul .i64 (l : Int) (Int.ofNat 10)) (k : Int) = ((l * 10 / k : Nat) : Int) := by rw [hm, i_quo (by omega)]
          have hr : irem (imul .i64 (l : Int) (Int.ofNat 10)) (k : Int) = ((l * 10 % k : Nat) : Int) := by rw [hm, u_rem]
          have hd := dig_small l k g2
          have hrm : roomS (s.length + (Lib.decDigits (l * 10 / k)).length) = true := roomS_t (by omega)
          repeat' ((first | refine bt ?_ | refine bf ?_ | refine vpur_i (itoa_ok' hx (Nat.le_trans (Nat.div_le_self _ _) (by omega)) []) ?_ | refine vb_t hrm ?_ | refine vl ?_ | fail) <;> conv => whnf)
          refine ⟨⟨(s ++ Lib.decDigits (l * 10 / k), l * 10 % k, f), by simp only [List.append_assoc]; exact g1, Nat.mod_lt _ (by omega), pow_mod k f l g3, by simp only [List.length_append]; omega⟩, by simp only; omega, cons_eq rfl (cons_eq rfl (cons_eq rfl (cons_eq (slot_eq (I_eq hr)) rfl))), rfl, rfl, rfl⟩
       · have hl0 : l = 0 := by (first | omega | (simp only [ilt_t, ilt_f, ile_t, ile_f, ieq_t, ieq_f, ofn, List.length_map, Bool.not_eq_true', Bool.not_eq_false'] at *; omega))
         subst hl0
         rw [frac_zero, List.append_nil] at g1
         subst g1
         repeat' ((first | refine bt ?_ | refine bf ?_ | refine vl ?_ | fail) <;> conv => whnf)
         exact ⟨rfl, rfl⟩
     · have q5 : ilt (Int.ofNat 0) (irem (isub .i64 0 n) (k : Int)) = false := by rw [hr0, ilt_f]; simp only [Int.ofNat_eq_natCast]; omega
       repeat' ((first | refine bt ?_ | refine bf ?_ | refine vpur_i (itoa_ok' hx0 (by omega) []) ?_ | refine vb_t (roomS_t (by simp; omega)) ?_ | refine vl ?_ | fail) <;> conv => whnf)
       rw [hr0]
       obtain ⟨l0, hl0⟩ : ∃ l0 : Nat, m % k = l0 := ⟨_, rfl⟩
       rw [if_neg hl, hl0] at hN
       rw [hl0] at hlk0 ⊢
       have hlk := hlk0
       have hl6 := pow_first k l0 hk
       obtain ⟨s0, hs⟩ : ∃ s0 : List UInt8, [45] ++ Lib.decDigits (m / k) = s0 := ⟨_, rfl⟩
       have hs0 : s0.length + 30 * 6 ≤ 400 := by rw [← hs]; simp; omega
       refine vloop_eq2 (fr' := [(1, I k), (4, S []), (5, S s0), (6, I l0)]) (h' := []) ?_ rfl ?_
       · subst hs; rfl
       obtain ⟨T, hTe⟩ : ∃ T : List UInt8, numText n k = T := ⟨_, rfl⟩
       have hT : s0 ++ fracT k 6 l0 = T := by rw [← hTe, hN, ← hs]; simp
       rw [hTe]
       refine vloop_by (σ := { x : List UInt8 × Nat × Nat // x.1 ++ fracT k x.2.2 x.2.1 = T ∧ x.2.1 < k ∧ x.2.1 * 10 ^ x.2.2 % k = 0 ∧ x.1.length + 30 * x.2.2 ≤ 400 }) (fun x => [(1, I k), (4, S []), (5, S x.1.1), (6, I x.1.2.1)]) (fun _ => []) (fun x => x.1.2.2) ?_ ⟨(s0, l0, 6), hT, hlk, hl6, hs0⟩
       rintro ⟨⟨s, l, f⟩, g1, g2, g3, g4⟩
       simp only at g1 g2 g3 g4
       conv => whnf
       refine vb_i (fun h => ?_) (fun h => ?_) <;> conv => whnf
       · have hl0 : l ≠ 0 := by (first | omega | (simp only [ilt_t, ilt_f, ile_t, ile_f, ieq_t, ieq_f, ofn, List.length_map, Bool.not_eq_true', Bool.not_eq_false'] at *; omega))
         cases f with
         | zero => exact absurd (by simpa [Nat.mod_eq_of_lt g2] using g3) hl0
         | succ f =>
          rw [frac_succ _ _ _ hl0] at g1
          have hm : imul .i64 (l : Int) (Int.ofNat 10) = ((l * 10 : Nat) : Int) := i_mulr (by omega)
          have hx : iquo .i64 (imul .i64 (l : Int) (Int.ofNat 10)) (k : Int) = ((l * 10 / k : Nat) : Int) := by rw [hm, i_quo (by omega)]
          have hr : irem (imul .i64 (l : Int) (Int.ofNat 10)) (k : Int) = ((l * 10 % k : Nat) : Int) := by rw [hm, u_rem]
          have hd := dig_small l k g2
          have hrm : roomS (s.length + (Lib.decDigits (l * 10 / k)).length) = true := roomS_t (by omega)
          repeat' ((first | refine bt ?_ | refine bf ?_ | refine vpur_i (itoa_ok' hx (Nat.le_trans (Nat.div_le_self _ _) (by omega)) []) ?_ | refine vb_t hrm ?_ | refine vl ?_ | fail) <;> conv => whnf)
          refine ⟨⟨(s ++ Lib.decDigits (l * 10 / k), l * 10 % k, f), by simp only [List.append_assoc]; exact g1, Nat.mod_lt _ (by omega), pow_mod k f l g3, by simp only [List.length_append]; omega⟩, by simp only; omega, cons_eq rfl (cons_eq rfl (cons_eq rfl (cons_eq (slot_eq (I_eq hr)) rfl))), rfl, rfl, rfl⟩
       · have hl0 : l = 0 := by (first | omega | (simp only [ilt_t, ilt_f, ile_t, ile_f, ieq_t, ieq_f, ofn, List.length_map, Bool.not_eq_true', Bool.not_eq_false'] at *; omega))
         subst hl0
         rw [frac_zero, List.append_nil] at g1
         subst g1
         repeat' ((first | refine bt ?_ | refine bf ?_ | refine vl ?_ | fail) <;> conv => whnf)
         exact ⟨rfl, rfl⟩
   · rw [if_neg hn] at hN
     have q3 : ilt n (Int.ofNat 0) = false := by rw [ilt_f]; simp only [Int.ofNat_eq_natCast]; omega
     have hmm : n = (m : Int) := by omega
     repeat' ((first | refine bt ?_ | refine bf ?_ | refine vpur_i (fixedIs_ok _) ?_ | refine vpur_i (isScale_ok _) ?_ | refine vl ?_ | fail) <;> conv => whnf)
     have hx0 : iquo .i64 (n) (k : Int) = ((m / k : Nat) : Int) := by rw [hmm, i_quo (by omega)]
     have hr0 : irem (n) (k : Int) = ((m % k : Nat) : Int) := by rw [hmm, u_rem]
     have hmk : m / k ≤ m := Nat.div_le_self _ _
     have hd0 := dec_le (m / k) (by omega)
     have hlk0 : m % k < k := Nat.mod_lt _ (by omega)
     by_cases hl : 0 < m % k
     · have q5 : ilt (Int.ofNat 0) (irem (n) (k : Int)) = true := by rw [hr0, ilt_t]; simp only [Int.ofNat_eq_natCast]; omega
       repeat' ((first | refine bt ?_ | refine bf ?_ | refine vpur_i (itoa_ok' hx0 (by omega) []) ?_ | refine vb_t (roomS_t (by simp; omega)) ?_ | refine vl ?_ | fail) <;> conv => whnf)
       rw [hr0]
       obtain ⟨l0, hl0⟩ : ∃ l0 : Nat, m % k = l0 := ⟨_, rfl⟩
       rw [if_pos hl, hl0] at hN
       rw [hl0] at hlk0 ⊢
       have hlk := hlk0
       have hl6 := pow_first k l0 hk
       obtain ⟨s0, hs⟩ : ∃ s0 : List UInt8, ([] ++ Lib.decDigits (m / k)) ++ [46] = s0 := ⟨_, rfl⟩
       have hs0 : s0.length + 30 * 6 ≤ 400 := by rw [← hs]; simp; omega
       refine vloop_eq2 (fr' := [(1, I k), (4, S []), (5, S s0), (6, I l0)]) (h' := []) ?_ rfl ?_
       · subst hs; rfl
       obtain ⟨T, hTe⟩ : ∃ T : List UInt8, numText n k = T := ⟨_, rfl⟩
       have hT : s0 ++ fracT k 6 l0 = T := by rw [← hTe, hN, ← hs]; simp
       rw [hTe]
       refine vloop_by (σ := { x : List UInt8 × Nat × Nat // x.1 ++ fracT k x.2.2 x.2.1 = T ∧ x.2.1 < k ∧ x.2.1 * 10 ^ x.2.2 % k = 0 ∧ x.1.length + 30 * x.2.2 ≤ 400 }) (fun x => [(1, I k), (4, S []), (5, S x.1.1), (6, I x.1.2.1)]) (fun _ => []) (fun x => x.1.2.2) ?_ ⟨(s0, l0, 6), hT, hlk, hl6, hs0⟩
       rintro ⟨⟨s, l, f⟩, g1, g2, g3, g4⟩
       simp only at g1 g2 g3 g4
       conv => whnf
       refine vb_i (fun h => ?_) (fun h => ?_) <;> conv => whnf
       · have hl0 : l ≠ 0 := by (first | omega | (simp only [ilt_t, ilt_f, ile_t, ile_f, ieq_t, ieq_f, ofn, List.length_map, Bool.not_eq_true', Bool.not_eq_false'] at *; omega))
         cases f with
         | zero => exact absurd (by simpa [Nat.mod_eq_of_lt g2] using g3) hl0
         | succ f =>
          rw [frac_succ _ _ _ hl0] at g1
          have hm : imul .i64 (l : Int) (Int.ofNat 10) = ((l * 10 : Nat) : Int) := i_mulr (by omega)
          have hx : iquo .i64 (imul .i64 (l : Int) (Int.ofNat 10)) (k : Int) = ((l * 10 / k : Nat) : Int) := by rw [hm, i_quo (by omega)]
          have hr : irem (imul .i64 (l : Int) (Int.ofNat 10)) (k : Int) = ((l * 10 % k : Nat) : Int) := by rw [hm, u_rem]
          have hd := dig_small l k g2
          have hrm : roomS (s.length + (Lib.decDigits (l * 10 / k)).length) = true := roomS_t (by omega)
          repeat' ((first | refine bt ?_ | refine bf ?_ | refine vpur_i (itoa_ok' hx (Nat.le_trans (Nat.div_le_self _ _) (by omega)) []) ?_ | refine vb_t hrm ?_ | refine vl ?_ | fail) <;> conv => whnf)
          refine ⟨⟨(s ++ Lib.decDigits (l * 10 / k), l * 10 % k, f), by simp only [List.append_assoc]; exact g1, Nat.mod_lt _ (by omega), pow_mod k f l g3, by simp only [List.length_append]; omega⟩, by simp only; omega, cons_eq rfl (cons_eq rfl (cons_eq rfl (cons_eq (slot_eq (I_eq hr)) rfl))), rfl, rfl, rfl⟩
       · have hl0 : l = 0 := by (first | omega | (simp only [ilt_t, ilt_f, ile_t, ile_f, ieq_t, ieq_f, ofn, List.length_map, Bool.not_eq_true', Bool.not_eq_false'] at *; omega))
         subst hl0
         rw [frac_zero, List.append_nil] at g1
         subst g1
         repeat' ((first | refine bt ?_ | refine bf ?_ | refine vl ?_ | fail) <;> conv => whnf)
         exact ⟨rfl, rfl⟩
     · have q5 : ilt (Int.ofNat 0) (irem (n) (k : Int)) = false := by rw [hr0, ilt_f]; simp only [Int.ofNat_eq_natCast]; omega
       repeat' ((first | refine bt ?_ | refine bf ?_ | refine vpur_i (itoa_ok' hx0 (by omega) []) ?_ | refine vb_t (roomS_t (by simp; omega)) ?_ | refine vl ?_ | fail) <;> conv => whnf)
       rw [hr0]
       obtain ⟨l0, hl0⟩ : ∃ l0 : Nat, m % k = l0 := ⟨_, rfl⟩
       rw [if_neg hl, hl0] at hN
       rw [hl0] at hlk0 ⊢
       have hlk := hlk0
       have hl6 := pow_first k l0 hk
       obtain ⟨s0, hs⟩ : ∃ s0 : List UInt8, [] ++ Lib.decDigits (m / k) = s0 := ⟨_, rfl⟩
       have hs0 : s0.length + 30 * 6 ≤ 400 := by rw [← hs]; simp; omega
       refine vloop_eq2 (fr' := [(1, I k), (4, S []), (5, S s0), (6, I l0)]) (h' := []) ?_ rfl ?_
       · subst hs; rfl
       obtain ⟨T, hTe⟩ : ∃ T : List UInt8, numText n k = T := ⟨_, rfl⟩
       have hT : s0 ++ fracT k 6 l0 = T := by rw [← hTe, hN, ← hs]; simp
       rw [hTe]
       refine vloop_by (σ := { x : List UInt8 × Nat × Nat // x.1 ++ fracT k x.2.2 x.2.1 = T ∧ x.2.1 < k ∧ x.2.1 * 10 ^ x.2.2 % k = 0 ∧ x.1.length + 30 * x.2.2 ≤ 400 }) (fun x => [(1, I k), (4, S []), (5, S x.1.1), (6, I x.1.2.1)]) (fun _ => []) (fun x => x.1.2.2) ?_ ⟨(s0, l0, 6), hT, hlk, hl6, hs0⟩
       rintro ⟨⟨s, l, f⟩, g1, g2, g3, g4⟩
       simp only at g1 g2 g3 g4
       conv => whnf
       refine vb_i (fun h => ?_) (fun h => ?_) <;> conv => whnf
       · have hl0 : l ≠ 0 := by (first | omega | (simp only [ilt_t, ilt_f, ile_t, ile_f, ieq_t, ieq_f, ofn, List.length_map, Bool.not_eq_true', Bool.not_eq_false'] at *; omega))
         cases f with
         | zero => exact absurd (by simpa [Nat.mod_eq_of_lt g2] using g3) hl0
         | succ f =>
          rw [frac_succ _ _ _ hl0] at g1
          have hm : imul .i64 (l : Int) (Int.ofNat 10) = ((l * 10 : Nat) : Int) := i_mulr (by omega)
          have hx : iquo .i64 (imul .i64 (l : Int) (Int.ofNat 10)) (k : Int) = ((l * 10 / k : Nat) : Int) := by rw [hm, i_quo (by omega)]
          have hr : irem (imul .i64 (l : Int) (Int.ofNat 10)) (k : Int) = ((l * 10 % k : Nat) : Int) := by rw [hm, u_rem]
          have hd := dig_small l k g2
          have hrm : roomS (s.length + (Lib.decDigits (l * 10 / k)).length) = true := roomS_t (by omega)
          repeat' ((first | refine bt ?_ | refine bf ?_ | refine vpur_i (itoa_ok' hx (Nat.le_trans (Nat.div_le_self _ _) (by omega)) []) ?_ | refine vb_t hrm ?_ | refine vl ?_ | fail) <;> conv => whnf)
          refine ⟨⟨(s ++ Lib.decDigits (l * 10 / k), l * 10 % k, f), by simp only [List.append_assoc]; exact g1, Nat.mod_lt _ (by omega), pow_mod k f l g3, by simp only [List.length_append]; omega⟩, by simp only; omega, cons_eq rfl (cons_eq rfl (cons_eq rfl (cons_eq (slot_eq (I_eq hr)) rfl))), rfl, rfl, rfl⟩
       · have hl0 : l = 0 := by (first | omega | (simp only [ilt_t, ilt_f, ile_t, ile_f, ieq_t, ieq_f, ofn, List.length_map, Bool.not_eq_true', Bool.not_eq_false'] at *; omega))
         subst hl0
         rw [frac_zero, List.append_nil] at g1
         subst g1
         repeat' ((first | refine bt ?_ | refine bf ?_ | refine vl ?_ | fail) <;> conv => whnf)
         exact ⟨rfl, rfl⟩
 · have hN : numText n sc = [] := by unfold numText; rw [if_neg hg]
   rw [hN]
   refine pur_code (cf := cfn Tryz.f58) (by kernel_rfl) ?_
   conv => arg 3; reduce
   conv => whnf
   repeat' ((first | refine bt ?_ | refine bf ?_ | refine vpur_i (fixedIs_ok _) ?_ | refine vpur_i (isScale_ok _) ?_ | refine vl ?_ | refine vb_i (fun h => ?_) (fun h => ?_) | fail) <;> conv => whnf)
   all_goals first
    | exact ⟨rfl, rfl⟩
    | (simp_all [isSc]; done)
theorem rowByte_dig (u : Nat) : textOf [[DV.int .u8 (icast .u8 (iadd .i64 (Int.ofNat 48) ((u % 10 : Nat) : Int)))]] = some [UInt8.ofNat (48 + u % 10)] := by
 have e : icast .u8 (iadd .i64 (Int.ofNat 48) ((u % 10 : Nat) : Int)) = ((UInt8.ofNat (48 + u % 10)).toNat : Int) := by
  rw [n_ofn, iadd64 (by omega) (by omega)]
  unfold icast
  simp only [IntKind.wrap, IntKind.signed, IntKind.bits, Bool.false_and, Bool.false_eq_true, if_false]
  rw [UInt8.toNat_ofNat']
  omega
 rw [e]
 exact textOf_bytes [UInt8.ofNat (48 + u % 10)]
theorem dec_small (u : Nat) (h : u < 10) : Lib.decDigits u = [UInt8.ofNat (48 + u % 10)] := by rw [Lib.decDigits_one h, Nat.mod_eq_of_lt h]
theorem dec_big (u : Nat) (h : ¬ u < 10) : Lib.decDigits u = Lib.decDigits (u / 10) ++ [UInt8.ofNat (48 + u % 10)] := by rw [Lib.decDigits, dif_neg h]
theorem whole_ok (u : Nat) (hu : u ≤ 4611686018427387904) : Pur F0 86 [I u] [] .no (.ret (S (Lib.decDigits u))) .no := by
 refine pur_code (cf := cfn Tryz.f86) (by kernel_rfl) ?_
 conv => arg 3; reduce
 conv => whnf
 have hl0 := dec_le u (by omega)
 refine vloop_by (σ := { x : Nat × List UInt8 // (if x.1 = 0 ∧ x.2 ≠ [] then x.2 else Lib.decDigits x.1 ++ x.2) = Lib.decDigits u ∧ x.1 ≤ u ∧ (x.1 = 0 → x.2 = []) }) (fun x => [(0, I x.1.1), (2, S []), (3, S x.1.2)]) (fun _ => []) (fun x => x.1.1 + (if x.1.2 = [] then 1 else 0)) ?_ ⟨(u, []), by simp, Nat.le_refl _, fun _ => rfl⟩
 rintro ⟨⟨n, s⟩, g1, g2, g3⟩
 simp only at g1 g2 g3
 have hg : Lib.decDigits n ++ s = Lib.decDigits u := by
  by_cases hn : n = 0
  · have := g3 hn; subst this; simpa using g1
  · rw [if_neg (by simp [hn])] at g1; exact g1
 have hlen : s.length ≤ 20 := by
  have := congrArg List.length hg
  simp only [List.length_append] at this
  omega
 have hz : iz (Int.ofNat 10) = false := iz_ten
 have e1 : irem (n : Int) (Int.ofNat 10) = ((n % 10 : Nat) : Int) := by rw [n_ofn, u_rem]
 have e2 : iquo .i64 (n : Int) (Int.ofNat 10) = ((n / 10 : Nat) : Int) := by rw [n_ofn, i_quo (by omega)]
 have ht : textOf (List.drop 0 (List.take 1 [[DV.int .u8 (icast .u8 (iadd .i64 (Int.ofNat 48) (irem (n : Int) (Int.ofNat 10))))]])) = some [UInt8.ofNat (48 + n % 10)] := by rw [e1]; exact rowByte_dig n
 have hrm : roomS (([UInt8.ofNat (48 + n % 10)] : List UInt8).length + s.length) = true := roomS_t (by simp; omega)
 conv => whnf
 by_cases hs : n < 10
 · have q : ieq (iquo .i64 (n : Int) (Int.ofNat 10)) (Int.ofNat 0) = true := by rw [e2, ieq_t]; simp only [Int.ofNat_eq_natCast]; omega
   rw [dec_small n hs] at hg
   repeat' ((first | refine bt ?_ | refine bf ?_ | refine vo_i ht ?_ | refine vb_t hrm ?_ | refine vl ?_ | fail) <;> conv => whnf)
   exact ⟨congrArg CR.ret (S_eq hg), rfl⟩
 · have q : ieq (iquo .i64 (n : Int) (Int.ofNat 10)) (Int.ofNat 0) = false := by rw [e2, ieq_f]; simp only [Int.ofNat_eq_natCast]; omega
   rw [dec_big n hs, List.append_assoc] at hg
   repeat' ((first | refine bt ?_ | refine bf ?_ | refine vo_i ht ?_ | refine vb_t hrm ?_ | refine vl ?_ | fail) <;> conv => whnf)
   refine ⟨⟨(n / 10, [UInt8.ofNat (48 + n % 10)] ++ s), ?_, by omega, fun h => by omega⟩, ?_, cons_eq (slot_eq (I_eq e2)) rfl, rfl, rfl, rfl⟩
   · simp only
     rw [if_neg (by omega)]; exact hg
   · simp only
     rw [if_neg (by simp)]
     split <;> omega
theorem whole_ok' {x : Int} {u : Nat} (hx : x = u) (hu : u ≤ 4611686018427387904) (h : Heap) (hh : h = [] := by rfl) : Pur F0 86 [I x] h .no (.ret (S (Lib.decDigits u))) .no := by subst hx hh; exact whole_ok u hu
theorem rtext_ok (n sc : Int) : Pur F0 60 [I n, I sc] [] .no (.ret (S (numText n sc))) .no := by
 by_cases hg : isPx n = true ∧ isSc sc
 · obtain ⟨hp, hsc⟩ := hg
   obtain ⟨k, rfl⟩ : ∃ k : Nat, sc = (k : Int) := ⟨sc.toNat, by unfold isSc at hsc; omega⟩
   have hk : k = 1 ∨ k = 64 ∨ k = 1000 := by unfold isSc at hsc; omega
   have hN : numText n k = (if n < 0 then [45] else []) ++ (Lib.decDigits (n.natAbs / k) ++ ((if 0 < n.natAbs % k then [46] else []) ++ fracT k 6 (n.natAbs % k))) := by
    unfold numText; rw [if_pos ⟨hp, hsc⟩]; rfl
   have hb : -68719476736 ≤ n ∧ n ≤ 68719476736 := by simpa [isPx] using hp
   obtain ⟨m, hm0⟩ : ∃ m : Nat, n.natAbs = m := ⟨_, rfl⟩
   have hmb : m ≤ 68719476736 := by omega
   rw [hm0] at hN
   refine pur_code (cf := cfn Tryz.f60) (by kernel_rfl) ?_
   conv => arg 3; reduce
   conv => whnf
   have q1 : (!isPx n) = false := by rw [hp]; rfl
   have q4 : iz (k : Int) = false := iz_u (by omega)
   have t1 : k = 1 ∧ (!ieq (k : Int) (Int.ofNat 1)) = false ∨ k ≠ 1 ∧ (!ieq (k : Int) (Int.ofNat 1)) = true := by simp only [Bool.not_eq_true', Bool.not_eq_false', ieq_t, ieq_f, Int.ofNat_eq_natCast]; omega
   have t2 : k = 64 ∧ (!ieq (k : Int) (Int.ofNat 64)) = false ∨ k ≠ 64 ∧ (!ieq (k : Int) (Int.ofNat 64)) = true := by simp only [Bool.not_eq_true', Bool.not_eq_false', ieq_t, ieq_f, Int.ofNat_eq_natCast]; omega
   have t3 : k = 1000 ∧ (!ieq (k : Int) (Int.ofNat 1000)) = false ∨ k ≠ 1000 ∧ (!ieq (k : Int) (Int.ofNat 1000)) = true := by simp only [Bool.not_eq_true', Bool.not_eq_false', ieq_t, ieq_f, Int.ofNat_eq_natCast]; omega
   have t4 : (!ieq (k : Int) (Int.ofNat 1)) = false ∨ (!ieq (k : Int) (Int.ofNat 1)) = true ∧ ((!ieq (k : Int) (Int.ofNat 64)) = false ∨ (!ieq (k : Int) (Int.ofNat 64)) = true ∧ (!ieq (k : Int) (Int.ofNat 1000)) = false) := by
    rcases t1 with ⟨a1, a2⟩ | ⟨a1, a2⟩
    · exact .inl a2
    rcases t2 with ⟨b1, b2⟩ | ⟨b1, b2⟩
    · exact .inr ⟨a2, .inl b2⟩
    rcases t3 with ⟨c1, c2⟩ | ⟨c1, c2⟩
    · exact .inr ⟨a2, .inr ⟨b2, c2⟩⟩
    · omega
   clear t1 t2 t3
   by_cases hn : n < 0
   · rw [if_pos hn] at hN
     have q3 : ilt n (Int.ofNat 0) = true := by rw [ilt_t]; exact hn
     have hmm : isub .i64 (Int.ofNat 0) n = (m : Int) := by
      have e : isub .i64 (Int.ofNat 0) n = isub .i64 0 n := rfl
      rw [e, isub64 (by omega) (by omega)]; omega
     rcases t4 with t4 | ⟨t4, t5 | ⟨t5, t6⟩⟩
     · repeat' ((first | refine bt ?_ | refine bf ?_ | refine vpur_i (refIs_ok _) ?_ | refine vl ?_ | fail) <;> conv => whnf)
       have hx0 : iquo .i64 (isub .i64 (Int.ofNat 0) n) (k : Int) = ((m / k : Nat) : Int) := by rw [hmm, i_quo (by omega)]
       have hr0 : irem (isub .i64 (Int.ofNat 0) n) (k : Int) = ((m % k : Nat) : Int) := by rw [hmm, u_rem]
       have hmk : m / k ≤ m := Nat.div_le_self _ _
       have hd0 := dec_le (m / k) (by omega)
       have hlk0 : m % k < k := Nat.mod_lt _ (by omega)
       by_cases hl : 0 < m % k
       · have q5 : ilt (Int.ofNat 0) (irem (isub .i64 (Int.ofNat 0) n) (k : Int)) = true := by rw [hr0, ilt_t]; simp only [Int.ofNat_eq_natCast]; omega
         repeat' ((first | refine bt ?_ | refine bf ?_ | refine vpur_i (whole_ok' hx0 (by omega) []) ?_ | refine vb_t (roomS_t (by simp; omega)) ?_ | refine vl ?_ | fail) <;> conv => whnf)
         rw [hr0]
         obtain ⟨l0, hl0⟩ : ∃ l0 : Nat, m % k = l0 := ⟨_, rfl⟩
         rw [if_pos hl, hl0] at hN
         rw [hl0] at hlk0 ⊢
         have hlk := hlk0
         have hl6 := pow_first k l0 hk
         obtain ⟨s0, hs⟩ : ∃ s0 : List UInt8, ([45] ++ Lib.decDigits (m / k)) ++ [46] = s0 := ⟨_, rfl⟩
         have hs0 : s0.length + 30 * 6 ≤ 400 := by rw [← hs]; simp; omega
         refine vloop_eq2 (fr' := [(1, I k), (4, S []), (5, S s0), (6, I l0)]) (h' := []) ?_ rfl ?_
         · subst hs; rfl
         obtain ⟨T, hTe⟩ : ∃ T : List UInt8, numText n k = T := ⟨_, rfl⟩
         have hT : s0 ++ fracT k 6 l0 = T := by rw [← hTe, hN, ← hs]; simp
         rw [hTe]
         refine vloop_by (σ := { x : List UInt8 × Nat × Nat // x.1 ++ fracT k x.2.2 x.2.1 = T ∧ x.2.1 < k ∧ x.2.1 * 10 ^ x.2.2 % k = 0 ∧ x.1.length + 30 * x.2.2 ≤ 400 }) (fun x => [(1, I k), (4, S []), (5, S x.1.1), (6, I x.1.2.1)]) (fun _ => []) (fun x => x.1.2.2) ?_ ⟨(s0, l0, 6), hT, hlk, hl6, hs0⟩
         rintro ⟨⟨s, l, f⟩, g1, g2, g3, g4⟩
         simp only at g1 g2 g3 g4
         conv => whnf
         refine vb_i (fun h => ?_) (fun h => ?_) <;> conv => whnf
         · have hl0 : l ≠ 0 := by (first | omega | (simp only [ilt_t, ilt_f, ile_t, ile_f, ieq_t, ieq_f, ofn, List.length_map, Bool.not_eq_true', Bool.not_eq_false'] at *; omega))
           cases f with
           | zero => exact absurd (by simpa [Nat.mod_eq_of_lt g2] using g3) hl0
           | succ f =>
            rw [frac_succ _ _ _ hl0] at g1
            have hm : imul .i64 (Int.ofNat 10) (l : Int) = ((l * 10 : Nat) : Int) := i_mull (by omega)
            have hx : iquo .i64 (imul .i64 (Int.ofNat 10) (l : Int)) (k : Int) = ((l * 10 / k : Nat) : Int) := by rw [hm, i_quo (by omega)]
            have hr : irem (imul .i64 (Int.ofNat 10) (l : Int)) (k : Int) = ((l * 10 % k : Nat) : Int) := by rw [hm, u_rem]
            have hd := dig_small l k g2
            have hrm : roomS (s.length + (Lib.decDigits (l * 10 / k)).length) = true := roomS_t (by omega)
            repeat' ((first | refine bt ?_ | refine bf ?_ | refine vpur_i (whole_ok' hx (Nat.le_trans (Nat.div_le_self _ _) (by omega)) []) ?_ | refine vb_t hrm ?_ | refine vl ?_ | fail) <;> conv => whnf)
            refine ⟨⟨(s ++ Lib.decDigits (l * 10 / k), l * 10 % k, f), by simp only [List.append_assoc]; exact g1, Nat.mod_lt _ (by omega), pow_mod k f l g3, by simp only [List.length_append]; omega⟩, by simp only; omega, cons_eq rfl (cons_eq rfl (cons_eq rfl (cons_eq (slot_eq (I_eq hr)) rfl))), rfl, rfl, rfl⟩
         · have hl0 : l = 0 := by (first | omega | (simp only [ilt_t, ilt_f, ile_t, ile_f, ieq_t, ieq_f, ofn, List.length_map, Bool.not_eq_true', Bool.not_eq_false'] at *; omega))
           subst hl0
           rw [frac_zero, List.append_nil] at g1
           subst g1
           repeat' ((first | refine bt ?_ | refine bf ?_ | refine vl ?_ | fail) <;> conv => whnf)
           exact ⟨rfl, rfl⟩
       · have q5 : ilt (Int.ofNat 0) (irem (isub .i64 (Int.ofNat 0) n) (k : Int)) = false := by rw [hr0, ilt_f]; simp only [Int.ofNat_eq_natCast]; omega
         repeat' ((first | refine bt ?_ | refine bf ?_ | refine vpur_i (whole_ok' hx0 (by omega) []) ?_ | refine vb_t (roomS_t (by simp; omega)) ?_ | refine vl ?_ | fail) <;> conv => whnf)
         rw [hr0]
         obtain ⟨l0, hl0⟩ : ∃ l0 : Nat, m % k = l0 := ⟨_, rfl⟩
         rw [if_neg hl, hl0] at hN
         rw [hl0] at hlk0 ⊢
         have hlk := hlk0
         have hl6 := pow_first k l0 hk
         obtain ⟨s0, hs⟩ : ∃ s0 : List UInt8, [45] ++ Lib.decDigits (m / k) = s0 := ⟨_, rfl⟩
         have hs0 : s0.length + 30 * 6 ≤ 400 := by rw [← hs]; simp; omega
         refine vloop_eq2 (fr' := [(1, I k), (4, S []), (5, S s0), (6, I l0)]) (h' := []) ?_ rfl ?_
         · subst hs; rfl
         obtain ⟨T, hTe⟩ : ∃ T : List UInt8, numText n k = T := ⟨_, rfl⟩
         have hT : s0 ++ fracT k 6 l0 = T := by rw [← hTe, hN, ← hs]; simp
         rw [hTe]
         refine vloop_by (σ := { x : List UInt8 × Nat × Nat // x.1 ++ fracT k x.2.2 x.2.1 = T ∧ x.2.1 < k ∧ x.2.1 * 10 ^ x.2.2 % k = 0 ∧ x.1.length + 30 * x.2.2 ≤ 400 }) (fun x => [(1, I k), (4, S []), (5, S x.1.1), (6, I x.1.2.1)]) (fun _ => []) (fun x => x.1.2.2) ?_ ⟨(s0, l0, 6), hT, hlk, hl6, hs0⟩
         rintro ⟨⟨s, l, f⟩, g1, g2, g3, g4⟩
         simp only at g1 g2 g3 g4
         conv => whnf
         refine vb_i (fun h => ?_) (fun h => ?_) <;> conv => whnf
         · have hl0 : l ≠ 0 := by (first | omega | (simp only [ilt_t, ilt_f, ile_t, ile_f, ieq_t, ieq_f, ofn, List.length_map, Bool.not_eq_true', Bool.not_eq_false'] at *; omega))
           cases f with
           | zero => exact absurd (by simpa [Nat.mod_eq_of_lt g2] using g3) hl0
           | succ f =>
            rw [frac_succ _ _ _ hl0] at g1
            have hm : imul .i64 (Int.ofNat 10) (l : Int) = ((l * 10 : Nat) : Int) := i_mull (by omega)
            have hx : iquo .i64 (imul .i64 (Int.ofNat 10) (l : Int)) (k : Int) = ((l * 10 / k : Nat) : Int) := by rw [hm, i_quo (by omega)]
            have hr : irem (imul .i64 (Int.ofNat 10) (l : Int)) (k : Int) = ((l * 10 % k : Nat) : Int) := by rw [hm, u_rem]
            have hd := dig_small l k g2
            have hrm : roomS (s.length + (Lib.decDigits (l * 10 / k)).length) = true := roomS_t (by omega)
            repeat' ((first | refine bt ?_ | refine bf ?_ | refine vpur_i (whole_ok' hx (Nat.le_trans (Nat.div_le_self _ _) (by omega)) []) ?_ | refine vb_t hrm ?_ | refine vl ?_ | fail) <;> conv => whnf)
            refine ⟨⟨(s ++ Lib.decDigits (l * 10 / k), l * 10 % k, f), by simp only [List.append_assoc]; exact g1, Nat.mod_lt _ (by omega), pow_mod k f l g3, by simp only [List.length_append]; omega⟩, by simp only; omega, cons_eq rfl (cons_eq rfl (cons_eq rfl (cons_eq (slot_eq (I_eq hr)) rfl))), rfl, rfl, rfl⟩
         · have hl0 : l = 0 := by (first | omega | (simp only [ilt_t, ilt_f, ile_t, ile_f, ieq_t, ieq_f, ofn, List.length_map, Bool.not_eq_true', Bool.not_eq_false'] at *; omega))
           subst hl0
           rw [frac_zero, List.append_nil] at g1
           subst g1
           repeat' ((first | refine bt ?_ | refine bf ?_ | refine vl ?_ | fail) <;> conv => whnf)
           exact ⟨rfl, rfl⟩
     · repeat' ((first | refine bt ?_ | refine bf ?_ | refine vpur_i (refIs_ok _) ?_ | refine vl ?_ | fail) <;> conv => whnf)
       have hx0 : iquo .i64 (isub .i64 (Int.ofNat 0) n) (k : Int) = ((m / k : Nat) : Int) := by rw [hmm, i_quo (by omega)]
       have hr0 : irem (isub .i64 (Int.ofNat 0) n) (k : Int) = ((m % k : Nat) : Int) := by rw [hmm, u_rem]
       have hmk : m / k ≤ m := Nat.div_le_self _ _
       have hd0 := dec_le (m / k) (by omega)
       have hlk0 : m % k < k := Nat.mod_lt _ (by omega)
       by_cases hl : 0 < m % k
       · have q5 : ilt (Int.ofNat 0) (irem (isub .i64 (Int.ofNat 0) n) (k : Int)) = true := by rw [hr0, ilt_t]; simp only [Int.ofNat_eq_natCast]; omega
         repeat' ((first | refine bt ?_ | refine bf ?_ | refine vpur_i (whole_ok' hx0 (by omega) []) ?_ | refine vb_t (roomS_t (by simp; omega)) ?_ | refine vl ?_ | fail) <;> conv => whnf)
         rw [hr0]
         obtain ⟨l0, hl0⟩ : ∃ l0 : Nat, m % k = l0 := ⟨_, rfl⟩
         rw [if_pos hl, hl0] at hN
         rw [hl0] at hlk0 ⊢
         have hlk := hlk0
         have hl6 := pow_first k l0 hk
         obtain ⟨s0, hs⟩ : ∃ s0 : List UInt8, ([45] ++ Lib.decDigits (m / k)) ++ [46] = s0 := ⟨_, rfl⟩
         have hs0 : s0.length + 30 * 6 ≤ 400 := by rw [← hs]; simp; omega
         refine vloop_eq2 (fr' := [(1, I k), (4, S []), (5, S s0), (6, I l0)]) (h' := []) ?_ rfl ?_
         · subst hs; rfl
         obtain ⟨T, hTe⟩ : ∃ T : List UInt8, numText n k = T := ⟨_, rfl⟩
         have hT : s0 ++ fracT k 6 l0 = T := by rw [← hTe, hN, ← hs]; simp
         rw [hTe]
         refine vloop_by (σ := { x : List UInt8 × Nat × Nat // x.1 ++ fracT k x.2.2 x.2.1 = T ∧ x.2.1 < k ∧ x.2.1 * 10 ^ x.2.2 % k = 0 ∧ x.1.length + 30 * x.2.2 ≤ 400 }) (fun x => [(1, I k), (4, S []), (5, S x.1.1), (6, I x.1.2.1)]) (fun _ => []) (fun x => x.1.2.2) ?_ ⟨(s0, l0, 6), hT, hlk, hl6, hs0⟩
         rintro ⟨⟨s, l, f⟩, g1, g2, g3, g4⟩
         simp only at g1 g2 g3 g4
         conv => whnf
         refine vb_i (fun h => ?_) (fun h => ?_) <;> conv => whnf
         · have hl0 : l ≠ 0 := by (first | omega | (simp only [ilt_t, ilt_f, ile_t, ile_f, ieq_t, ieq_f, ofn, List.length_map, Bool.not_eq_true', Bool.not_eq_false'] at *; omega))
           cases f with
           | zero => exact absurd (by simpa [Nat.mod_eq_of_lt g2] using g3) hl0
           | succ f =>
            rw [frac_succ _ _ _ hl0] at g1
            have hm : imul .i64 (Int.ofNat 10) (l : Int) = ((l * 10 : Nat) : Int) := i_mull (by omega)
            have hx : iquo .i64 (imul .i64 (Int.ofNat 10) (l : Int)) (k : Int) = ((l * 10 / k : Nat) : Int) := by rw [hm, i_quo (by omega)]
            have hr : irem (imul .i64 (Int.ofNat 10) (l : Int)) (k : Int) = ((l * 10 % k : Nat) : Int) := by rw [hm, u_rem]
            have hd := dig_small l k g2
            have hrm : roomS (s.length + (Lib.decDigits (l * 10 / k)).length) = true := roomS_t (by omega)
            repeat' ((first | refine bt ?_ | refine bf ?_ | refine vpur_i (whole_ok' hx (Nat.le_trans (Nat.div_le_self _ _) (by omega)) []) ?_ | refine vb_t hrm ?_ | refine vl ?_ | fail) <;> conv => whnf)
            refine ⟨⟨(s ++ Lib.decDigits (l * 10 / k), l * 10 % k, f), by simp only [List.append_assoc]; exact g1, Nat.mod_lt _ (by omega), pow_mod k f l g3, by simp only [List.length_append]; omega⟩, by simp only; omega, cons_eq rfl (cons_eq rfl (cons_eq rfl (cons_eq (slot_eq (I_eq hr)) rfl))), rfl, rfl, rfl⟩
         · have hl0 : l = 0 := by (first | omega | (simp only [ilt_t, ilt_f, ile_t, ile_f, ieq_t, ieq_f, ofn, List.length_map, Bool.not_eq_true', Bool.not_eq_false'] at *; omega))
           subst hl0
           rw [frac_zero, List.append_nil] at g1
           subst g1
           repeat' ((first | refine bt ?_ | refine bf ?_ | refine vl ?_ | fail) <;> conv => whnf)
           exact ⟨rfl, rfl⟩
       · have q5 : ilt (Int.ofNat 0) (irem (isub .i64 (Int.ofNat 0) n) (k : Int)) = false := by rw [hr0, ilt_f]; simp only [Int.ofNat_eq_natCast]; omega
         repeat' ((first | refine bt ?_ | refine bf ?_ | refine vpur_i (whole_ok' hx0 (by omega) []) ?_ | refine vb_t (roomS_t (by simp; omega)) ?_ | refine vl ?_ | fail) <;> conv => whnf)
         rw [hr0]
         obtain ⟨l0, hl0⟩ : ∃ l0 : Nat, m % k = l0 := ⟨_, rfl⟩
         rw [if_neg hl, hl0] at hN
         rw [hl0] at hlk0 ⊢
         have hlk := hlk0
         have hl6 := pow_first k l0 hk
         obtain ⟨s0, hs⟩ : ∃ s0 : List UInt8, [45] ++ Lib.decDigits (m / k) = s0 := ⟨_, rfl⟩
         have hs0 : s0.length + 30 * 6 ≤ 400 := by rw [← hs]; simp; omega
         refine vloop_eq2 (fr' := [(1, I k), (4, S []), (5, S s0), (6, I l0)]) (h' := []) ?_ rfl ?_
         · subst hs; rfl
         obtain ⟨T, hTe⟩ : ∃ T : List UInt8, numText n k = T := ⟨_, rfl⟩
         have hT : s0 ++ fracT k 6 l0 = T := by rw [← hTe, hN, ← hs]; simp
         rw [hTe]
         refine vloop_by (σ := { x : List UInt8 × Nat × Nat // x.1 ++ fracT k x.2.2 x.2.1 = T ∧ x.2.1 < k ∧ x.2.1 * 10 ^ x.2.2 % k = 0 ∧ x.1.length + 30 * x.2.2 ≤ 400 }) (fun x => [(1, I k), (4, S []), (5, S x.1.1), (6, I x.1.2.1)]) (fun _ => []) (fun x => x.1.2.2) ?_ ⟨(s0, l0, 6), hT, hlk, hl6, hs0⟩
         rintro ⟨⟨s, l, f⟩, g1, g2, g3, g4⟩
         simp only at g1 g2 g3 g4
         conv => whnf
         refine vb_i (fun h => ?_) (fun h => ?_) <;> conv => whnf
         · have hl0 : l ≠ 0 := by (first | omega | (simp only [ilt_t, ilt_f, ile_t, ile_f, ieq_t, ieq_f, ofn, List.length_map, Bool.not_eq_true', Bool.not_eq_false'] at *; omega))
           cases f with
           | zero => exact absurd (by simpa [Nat.mod_eq_of_lt g2] using g3) hl0
           | succ f =>
            rw [frac_succ _ _ _ hl0] at g1
            have hm : imul .i64 (Int.ofNat 10) (l : Int) = ((l * 10 : Nat) : Int) := i_mull (by omega)
            have hx : iquo .i64 (imul .i64 (Int.ofNat 10) (l : Int)) (k : Int) = ((l * 10 / k : Nat) : Int) := by rw [hm, i_quo (by omega)]
            have hr : irem (imul .i64 (Int.ofNat 10) (l : Int)) (k : Int) = ((l * 10 % k : Nat) : Int) := by rw [hm, u_rem]
            have hd := dig_small l k g2
            have hrm : roomS (s.length + (Lib.decDigits (l * 10 / k)).length) = true := roomS_t (by omega)
            repeat' ((first | refine bt ?_ | refine bf ?_ | refine vpur_i (whole_ok' hx (Nat.le_trans (Nat.div_le_self _ _) (by omega)) []) ?_ | refine vb_t hrm ?_ | refine vl ?_ | fail) <;> conv => whnf)
            refine ⟨⟨(s ++ Lib.decDigits (l * 10 / k), l * 10 % k, f), by simp only [List.append_assoc]; exact g1, Nat.mod_lt _ (by omega), pow_mod k f l g3, by simp only [List.length_append]; omega⟩, by simp only; omega, cons_eq rfl (cons_eq rfl (cons_eq rfl (cons_eq (slot_eq (I_eq hr)) rfl))), rfl, rfl, rfl⟩
         · have hl0 : l = 0 := by (first | omega | (simp only [ilt_t, ilt_f, ile_t, ile_f, ieq_t, ieq_f, ofn, List.length_map, Bool.not_eq_true', Bool.not_eq_false'] at *; omega))
           subst hl0
           rw [frac_zero, List.append_nil] at g1
           subst g1
           repeat' ((first | refine bt ?_ | refine bf ?_ | refine vl ?_ | fail) <;> conv => whnf)
           exact ⟨rfl, rfl⟩
     · repeat' ((first | refine bt ?_ | refine bf ?_ | refine vpur_i (refIs_ok _) ?_ | refine vl ?_ | fail) <;> conv => whnf)
       have hx0 : iquo .i64 (isub .i64 (Int.ofNat 0) n) (k : Int) = ((m / k : Nat) : Int) := by rw [hmm, i_quo (by omega)]
       have hr0 : irem (isub .i64 (Int.ofNat 0) n) (k : Int) = ((m % k : Nat) : Int) := by rw [hmm, u_rem]
       have hmk : m / k ≤ m := Nat.div_le_self _ _
       have hd0 := dec_le (m / k) (by omega)
       have hlk0 : m % k < k := Nat.mod_lt _ (by omega)
       by_cases hl : 0 < m % k
       · have q5 : ilt (Int.ofNat 0) (irem (isub .i64 (Int.ofNat 0) n) (k : Int)) = true := by rw [hr0, ilt_t]; simp only [Int.ofNat_eq_natCast]; omega
         repeat' ((first | refine bt ?_ | refine bf ?_ | refine vpur_i (whole_ok' hx0 (by omega) []) ?_ | refine vb_t (roomS_t (by simp; omega)) ?_ | refine vl ?_ | fail) <;> conv => whnf)
         rw [hr0]
         obtain ⟨l0, hl0⟩ : ∃ l0 : Nat, m % k = l0 := ⟨_, rfl⟩
         rw [if_pos hl, hl0] at hN
         rw [hl0] at hlk0 ⊢
         have hlk := hlk0
         have hl6 := pow_first k l0 hk
         obtain ⟨s0, hs⟩ : ∃ s0 : List UInt8, ([45] ++ Lib.decDigits (m / k)) ++ [46] = s0 := ⟨_, rfl⟩
         have hs0 : s0.length + 30 * 6 ≤ 400 := by rw [← hs]; simp; omega
         refine vloop_eq2 (fr' := [(1, I k), (4, S []), (5, S s0), (6, I l0)]) (h' := []) ?_ rfl ?_
         · subst hs; rfl
         obtain ⟨T, hTe⟩ : ∃ T : List UInt8, numText n k = T := ⟨_, rfl⟩
         have hT : s0 ++ fracT k 6 l0 = T := by rw [← hTe, hN, ← hs]; simp
         rw [hTe]
         refine vloop_by (σ := { x : List UInt8 × Nat × Nat // x.1 ++ fracT k x.2.2 x.2.1 = T ∧ x.2.1 < k ∧ x.2.1 * 10 ^ x.2.2 % k = 0 ∧ x.1.length + 30 * x.2.2 ≤ 400 }) (fun x => [(1, I k), (4, S []), (5, S x.1.1), (6, I x.1.2.1)]) (fun _ => []) (fun x => x.1.2.2) ?_ ⟨(s0, l0, 6), hT, hlk, hl6, hs0⟩
         rintro ⟨⟨s, l, f⟩, g1, g2, g3, g4⟩
         simp only at g1 g2 g3 g4
         conv => whnf
         refine vb_i (fun h => ?_) (fun h => ?_) <;> conv => whnf
         · have hl0 : l ≠ 0 := by (first | omega | (simp only [ilt_t, ilt_f, ile_t, ile_f, ieq_t, ieq_f, ofn, List.length_map, Bool.not_eq_true', Bool.not_eq_false'] at *; omega))
           cases f with
           | zero => exact absurd (by simpa [Nat.mod_eq_of_lt g2] using g3) hl0
           | succ f =>
            rw [frac_succ _ _ _ hl0] at g1
            have hm : imul .i64 (Int.ofNat 10) (l : Int) = ((l * 10 : Nat) : Int) := i_mull (by omega)
            have hx : iquo .i64 (imul .i64 (Int.ofNat 10) (l : Int)) (k : Int) = ((l * 10 / k : Nat) : Int) := by rw [hm, i_quo (by omega)]
            have hr : irem (imul .i64 (Int.ofNat 10) (l : Int)) (k : Int) = ((l * 10 % k : Nat) : Int) := by rw [hm, u_rem]
            have hd := dig_small l k g2
            have hrm : roomS (s.length + (Lib.decDigits (l * 10 / k)).length) = true := roomS_t (by omega)
            repeat' ((first | refine bt ?_ | refine bf ?_ | refine vpur_i (whole_ok' hx (Nat.le_trans (Nat.div_le_self _ _) (by omega)) []) ?_ | refine vb_t hrm ?_ | refine vl ?_ | fail) <;> conv => whnf)
            refine ⟨⟨(s ++ Lib.decDigits (l * 10 / k), l * 10 % k, f), by simp only [List.append_assoc]; exact g1, Nat.mod_lt _ (by omega), pow_mod k f l g3, by simp only [List.length_append]; omega⟩, by simp only; omega, cons_eq rfl (cons_eq rfl (cons_eq rfl (cons_eq (slot_eq (I_eq hr)) rfl))), rfl, rfl, rfl⟩
         · have hl0 : l = 0 := by (first | omega | (simp only [ilt_t, ilt_f, ile_t, ile_f, ieq_t, ieq_f, ofn, List.length_map, Bool.not_eq_true', Bool.not_eq_false'] at *; omega))
           subst hl0
           rw [frac_zero, List.append_nil] at g1
           subst g1
           repeat' ((first | refine bt ?_ | refine bf ?_ | refine vl ?_ | fail) <;> conv => whnf)
           exact ⟨rfl, rfl⟩
       · have q5 : ilt (Int.ofNat 0) (irem (isub .i64 (Int.ofNat 0) n) (k : Int)) = false := by rw [hr0, ilt_f]; simp only [Int.ofNat_eq_natCast]; omega
         repeat' ((first | refine bt ?_ | refine bf ?_ | refine vpur_i (whole_ok' hx0 (by omega) []) ?_ | refine vb_t (roomS_t (by simp; omega)) ?_ | refine vl ?_ | fail) <;> conv => whnf)
         rw [hr0]
         obtain ⟨l0, hl0⟩ : ∃ l0 : Nat, m % k = l0 := ⟨_, rfl⟩
         rw [if_neg hl, hl0] at hN
         rw [hl0] at hlk0 ⊢
         have hlk := hlk0
         have hl6 := pow_first k l0 hk
         obtain ⟨s0, hs⟩ : ∃ s0 : List UInt8, [45] ++ Lib.decDigits (m / k) = s0 := ⟨_, rfl⟩
         have hs0 : s0.length + 30 * 6 ≤ 400 := by rw [← hs]; simp; omega
         refine vloop_eq2 (fr' := [(1, I k), (4, S []), (5, S s0), (6, I l0)]) (h' := []) ?_ rfl ?_
         · subst hs; rfl
         obtain ⟨T, hTe⟩ : ∃ T : List UInt8, numText n k = T := ⟨_, rfl⟩
         have hT : s0 ++ fracT k 6 l0 = T := by rw [← hTe, hN, ← hs]; simp
         rw [hTe]
         refine vloop_by (σ := { x : List UInt8 × Nat × Nat // x.1 ++ fracT k x.2.2 x.2.1 = T ∧ x.2.1 < k ∧ x.2.1 * 10 ^ x.2.2 % k = 0 ∧ x.1.length + 30 * x.2.2 ≤ 400 }) (fun x => [(1, I k), (4, S []), (5, S x.1.1), (6, I x.1.2.1)]) (fun _ => []) (fun x => x.1.2.2) ?_ ⟨(s0, l0, 6), hT, hlk, hl6, hs0⟩
         rintro ⟨⟨s, l, f⟩, g1, g2, g3, g4⟩
         simp only at g1 g2 g3 g4
         conv => whnf
         refine vb_i (fun h => ?_) (fun h => ?_) <;> conv => whnf
         · have hl0 : l ≠ 0 := by (first | omega | (simp only [ilt_t, ilt_f, ile_t, ile_f, ieq_t, ieq_f, ofn, List.length_map, Bool.not_eq_true', Bool.not_eq_false'] at *; omega))
           cases f with
           | zero => exact absurd (by simpa [Nat.mod_eq_of_lt g2] using g3) hl0
           | succ f =>
            rw [frac_succ _ _ _ hl0] at g1
            have hm : imul .i64 (Int.ofNat 10) (l : Int) = ((l * 10 : Nat) : Int) := i_mull (by omega)
            have hx : iquo .i64 (imul .i64 (Int.ofNat 10) (l : Int)) (k : Int) = ((l * 10 / k : Nat) : Int) := by rw [hm, i_quo (by omega)]
            have hr : irem (imul .i64 (Int.ofNat 10) (l : Int)) (k : Int) = ((l * 10 % k : Nat) : Int) := by rw [hm, u_rem]
            have hd := dig_small l k g2
            have hrm : roomS (s.length + (Lib.decDigits (l * 10 / k)).length) = true := roomS_t (by omega)
            repeat' ((first | refine bt ?_ | refine bf ?_ | refine vpur_i (whole_ok' hx (Nat.le_trans (Nat.div_le_self _ _) (by omega)) []) ?_ | refine vb_t hrm ?_ | refine vl ?_ | fail) <;> conv => whnf)
            refine ⟨⟨(s ++ Lib.decDigits (l * 10 / k), l * 10 % k, f), by simp only [List.append_assoc]; exact g1, Nat.mod_lt _ (by omega), pow_mod k f l g3, by simp only [List.length_append]; omega⟩, by simp only; omega, cons_eq rfl (cons_eq rfl (cons_eq rfl (cons_eq (slot_eq (I_eq hr)) rfl))), rfl, rfl, rfl⟩
         · have hl0 : l = 0 := by (first | omega | (simp only [ilt_t, ilt_f, ile_t, ile_f, ieq_t, ieq_f, ofn, List.length_map, Bool.not_eq_true', Bool.not_eq_false'] at *; omega))
           subst hl0
           rw [frac_zero, List.append_nil] at g1
           subst g1
           repeat' ((first | refine bt ?_ | refine bf ?_ | refine vl ?_ | fail) <;> conv => whnf)
           exact ⟨rfl, rfl⟩
   · rw [if_neg hn] at hN
     have q3 : ilt n (Int.ofNat 0) = false := by rw [ilt_f]; simp only [Int.ofNat_eq_natCast]; omega
     have hmm : n = (m : Int) := by omega
     rcases t4 with t4 | ⟨t4, t5 | ⟨t5, t6⟩⟩
     · repeat' ((first | refine bt ?_ | refine bf ?_ | refine vpur_i (refIs_ok _) ?_ | refine vl ?_ | fail) <;> conv => whnf)
       have hx0 : iquo .i64 (n) (k : Int) = ((m / k : Nat) : Int) := by rw [hmm, i_quo (by omega)]
       have hr0 : irem (n) (k : Int) = ((m % k : Nat) : Int) := by rw [hmm, u_rem]
       have hmk : m / k ≤ m := Nat.div_le_self _ _
       have hd0 := dec_le (m / k) (by omega)
       have hlk0 : m % k < k := Nat.mod_lt _ (by omega)
       by_cases hl : 0 < m % k
       · have q5 : ilt (Int.ofNat 0) (irem (n) (k : Int)) = true := by rw [hr0, ilt_t]; simp only [Int.ofNat_eq_natCast]; omega
         repeat' ((first | refine bt ?_ | refine bf ?_ | refine vpur_i (whole_ok' hx0 (by omega) []) ?_ | refine vb_t (roomS_t (by simp; omega)) ?_ | refine vl ?_ | fail) <;> conv => whnf)
         rw [hr0]
         obtain ⟨l0, hl0⟩ : ∃ l0 : Nat, m % k = l0 := ⟨_, rfl⟩
         rw [if_pos hl, hl0] at hN
         rw [hl0] at hlk0 ⊢
         have hlk := hlk0
         have hl6 := pow_first k l0 hk
         obtain ⟨s0, hs⟩ : ∃ s0 : List UInt8, ([] ++ Lib.decDigits (m / k)) ++ [46] = s0 := ⟨_, rfl⟩
         have hs0 : s0.length + 30 * 6 ≤ 400 := by rw [← hs]; simp; omega
         refine vloop_eq2 (fr' := [(1, I k), (4, S []), (5, S s0), (6, I l0)]) (h' := []) ?_ rfl ?_
         · subst hs; rfl
         obtain ⟨T, hTe⟩ : ∃ T : List UInt8, numText n k = T := ⟨_, rfl⟩
         have hT : s0 ++ fracT k 6 l0 = T := by rw [← hTe, hN, ← hs]; simp
         rw [hTe]
         refine vloop_by (σ := { x : List UInt8 × Nat × Nat // x.1 ++ fracT k x.2.2 x.2.1 = T ∧ x.2.1 < k ∧ x.2.1 * 10 ^ x.2.2 % k = 0 ∧ x.1.length + 30 * x.2.2 ≤ 400 }) (fun x => [(1, I k), (4, S []), (5, S x.1.1), (6, I x.1.2.1)]) (fun _ => []) (fun x => x.1.2.2) ?_ ⟨(s0, l0, 6), hT, hlk, hl6, hs0⟩
         rintro ⟨⟨s, l, f⟩, g1, g2, g3, g4⟩
         simp only at g1 g2 g3 g4
         conv => whnf
         refine vb_i (fun h => ?_) (fun h => ?_) <;> conv => whnf
         · have hl0 : l ≠ 0 := by (first | omega | (simp only [ilt_t, ilt_f, ile_t, ile_f, ieq_t, ieq_f, ofn, List.length_map, Bool.not_eq_true', Bool.not_eq_false'] at *; omega))
           cases f with
           | zero => exact absurd (by simpa [Nat.mod_eq_of_lt g2] using g3) hl0
           | succ f =>
            rw [frac_succ _ _ _ hl0] at g1
            have hm : imul .i64 (Int.ofNat 10) (l : Int) = ((l * 10 : Nat) : Int) := i_mull (by omega)
            have hx : iquo .i64 (imul .i64 (Int.ofNat 10) (l : Int)) (k : Int) = ((l * 10 / k : Nat) : Int) := by rw [hm, i_quo (by omega)]
            have hr : irem (imul .i64 (Int.ofNat 10) (l : Int)) (k : Int) = ((l * 10 % k : Nat) : Int) := by rw [hm, u_rem]
            have hd := dig_small l k g2
            have hrm : roomS (s.length + (Lib.decDigits (l * 10 / k)).length) = true := roomS_t (by omega)
            repeat' ((first | refine bt ?_ | refine bf ?_ | refine vpur_i (whole_ok' hx (Nat.le_trans (Nat.div_le_self _ _) (by omega)) []) ?_ | refine vb_t hrm ?_ | refine vl ?_ | fail) <;> conv => whnf)
            refine ⟨⟨(s ++ Lib.decDigits (l * 10 / k), l * 10 % k, f), by simp only [List.append_assoc]; exact g1, Nat.mod_lt _ (by omega), pow_mod k f l g3, by simp only [List.length_append]; omega⟩, by simp only; omega, cons_eq rfl (cons_eq rfl (cons_eq rfl (cons_eq (slot_eq (I_eq hr)) rfl))), rfl, rfl, rfl⟩
         · have hl0 : l = 0 := by (first | omega | (simp only [ilt_t, ilt_f, ile_t, ile_f, ieq_t, ieq_f, ofn, List.length_map, Bool.not_eq_true', Bool.not_eq_false'] at *; omega))
           subst hl0
           rw [frac_zero, List.append_nil] at g1
           subst g1
           repeat' ((first | refine bt ?_ | refine bf ?_ | refine vl ?_ | fail) <;> conv => whnf)
           exact ⟨rfl, rfl⟩
       · have q5 : ilt (Int.ofNat 0) (irem (n) (k : Int)) = false := by rw [hr0, ilt_f]; simp only [Int.ofNat_eq_natCast]; omega
         repeat' ((first | refine bt ?_ | refine bf ?_ | refine vpur_i (whole_ok' hx0 (by omega) []) ?_ | refine vb_t (roomS_t (by simp; omega)) ?_ | refine vl ?_ | fail) <;> conv => whnf)
         rw [hr0]
         obtain ⟨l0, hl0⟩ : ∃ l0 : Nat, m % k = l0 := ⟨_, rfl⟩
         rw [if_neg hl, hl0] at hN
         rw [hl0] at hlk0 ⊢
         have hlk := hlk0
         have hl6 := pow_first k l0 hk
         obtain ⟨s0, hs⟩ : ∃ s0 : List UInt8, [] ++ Lib.decDigits (m / k) = s0 := ⟨_, rfl⟩
         have hs0 : s0.length + 30 * 6 ≤ 400 := by rw [← hs]; simp; omega
         refine vloop_eq2 (fr' := [(1, I k), (4, S []), (5, S s0), (6, I l0)]) (h' := []) ?_ rfl ?_
         · subst hs; rfl
         obtain ⟨T, hTe⟩ : ∃ T : List UInt8, numText n k = T := ⟨_, rfl⟩
         have hT : s0 ++ fracT k 6 l0 = T := by rw [← hTe, hN, ← hs]; simp
         rw [hTe]
         refine vloop_by (σ := { x : List UInt8 × Nat × Nat // x.1 ++ fracT k x.2.2 x.2.1 = T ∧ x.2.1 < k ∧ x.2.1 * 10 ^ x.2.2 % k = 0 ∧ x.1.length + 30 * x.2.2 ≤ 400 }) (fun x => [(1, I k), (4, S []), (5, S x.1.1), (6, I x.1.2.1)]) (fun _ => []) (fun x => x.1.2.2) ?_ ⟨(s0, l0, 6), hT, hlk, hl6, hs0⟩
         rintro ⟨⟨s, l, f⟩, g1, g2, g3, g4⟩
         simp only at g1 g2 g3 g4
         conv => whnf
         refine vb_i (fun h => ?_) (fun h => ?_) <;> conv => whnf
         · have hl0 : l ≠ 0 := by (first | omega | (simp only [ilt_t, ilt_f, ile_t, ile_f, ieq_t, ieq_f, ofn, List.length_map, Bool.not_eq_true', Bool.not_eq_false'] at *; omega))
           cases f with
           | zero => exact absurd (by simpa [Nat.mod_eq_of_lt g2] using g3) hl0
           | succ f =>
            rw [frac_succ _ _ _ hl0] at g1
            have hm : imul .i64 (Int.ofNat 10) (l : Int) = ((l * 10 : Nat) : Int) := i_mull (by omega)
            have hx : iquo .i64 (imul .i64 (Int.ofNat 10) (l : Int)) (k : Int) = ((l * 10 / k : Nat) : Int) := by rw [hm, i_quo (by omega)]
            have hr : irem (imul .i64 (Int.ofNat 10) (l : Int)) (k : Int) = ((l * 10 % k : Nat) : Int) := by rw [hm, u_rem]
            have hd := dig_small l k g2
            have hrm : roomS (s.length + (Lib.decDigits (l * 10 / k)).length) = true := roomS_t (by omega)
            repeat' ((first | refine bt ?_ | refine bf ?_ | refine vpur_i (whole_ok' hx (Nat.le_trans (Nat.div_le_self _ _) (by omega)) []) ?_ | refine vb_t hrm ?_ | refine vl ?_ | fail) <;> conv => whnf)
            refine ⟨⟨(s ++ Lib.decDigits (l * 10 / k), l * 10 % k, f), by simp only [List.append_assoc]; exact g1, Nat.mod_lt _ (by omega), pow_mod k f l g3, by simp only [List.length_append]; omega⟩, by simp only; omega, cons_eq rfl (cons_eq rfl (cons_eq rfl (cons_eq (slot_eq (I_eq hr)) rfl))), rfl, rfl, rfl⟩
         · have hl0 : l = 0 := by (first | omega | (simp only [ilt_t, ilt_f, ile_t, ile_f, ieq_t, ieq_f, ofn, List.length_map, Bool.not_eq_true', Bool.not_eq_false'] at *; omega))
           subst hl0
           rw [frac_zero, List.append_nil] at g1
           subst g1
           repeat' ((first | refine bt ?_ | refine bf ?_ | refine vl ?_ | fail) <;> conv => whnf)
           exact ⟨rfl, rfl⟩
     · repeat' ((first | refine bt ?_ | refine bf ?_ | refine vpur_i (refIs_ok _) ?_ | refine vl ?_ | fail) <;> conv => whnf)
       have hx0 : iquo .i64 (n) (k : Int) = ((m / k : Nat) : Int) := by rw [hmm, i_quo (by omega)]
       have hr0 : irem (n) (k : Int) = ((m % k : Nat) : Int) := by rw [hmm, u_rem]
       have hmk : m / k ≤ m := Nat.div_le_self _ _
       have hd0 := dec_le (m / k) (by omega)
       have hlk0 : m % k < k := Nat.mod_lt _ (by omega)
       by_cases hl : 0 < m % k
       · have q5 : ilt (Int.ofNat 0) (irem (n) (k : Int)) = true := by rw [hr0, ilt_t]; simp only [Int.ofNat_eq_natCast]; omega
         repeat' ((first | refine bt ?_ | refine bf ?_ | refine vpur_i (whole_ok' hx0 (by omega) []) ?_ | refine vb_t (roomS_t (by simp; omega)) ?_ | refine vl ?_ | fail) <;> conv => whnf)
         rw [hr0]
         obtain ⟨l0, hl0⟩ : ∃ l0 : Nat, m % k = l0 := ⟨_, rfl⟩
         rw [if_pos hl, hl0] at hN
         rw [hl0] at hlk0 ⊢
         have hlk := hlk0
         have hl6 := pow_first k l0 hk
         obtain ⟨s0, hs⟩ : ∃ s0 : List UInt8, ([] ++ Lib.decDigits (m / k)) ++ [46] = s0 := ⟨_, rfl⟩
         have hs0 : s0.length + 30 * 6 ≤ 400 := by rw [← hs]; simp; omega
         refine vloop_eq2 (fr' := [(1, I k), (4, S []), (5, S s0), (6, I l0)]) (h' := []) ?_ rfl ?_
         · subst hs; rfl
         obtain ⟨T, hTe⟩ : ∃ T : List UInt8, numText n k = T := ⟨_, rfl⟩
         have hT : s0 ++ fracT k 6 l0 = T := by rw [← hTe, hN, ← hs]; simp
         rw [hTe]
         refine vloop_by (σ := { x : List UInt8 × Nat × Nat // x.1 ++ fracT k x.2.2 x.2.1 = T ∧ x.2.1 < k ∧ x.2.1 * 10 ^ x.2.2 % k = 0 ∧ x.1.length + 30 * x.2.2 ≤ 400 }) (fun x => [(1, I k), (4, S []), (5, S x.1.1), (6, I x.1.2.1)]) (fun _ => []) (fun x => x.1.2.2) ?_ ⟨(s0, l0, 6), hT, hlk, hl6, hs0⟩
         rintro ⟨⟨s, l, f⟩, g1, g2, g3, g4⟩
         simp only at g1 g2 g3 g4
         conv => whnf
         refine vb_i (fun h => ?_) (fun h => ?_) <;> conv => whnf
         · have hl0 : l ≠ 0 := by (first | omega | (simp only [ilt_t, ilt_f, ile_t, ile_f, ieq_t, ieq_f, ofn, List.length_map, Bool.not_eq_true', Bool.not_eq_false'] at *; omega))
           cases f with
           | zero => exact absurd (by simpa [Nat.mod_eq_of_lt g2] using g3) hl0
           | succ f =>
            rw [frac_succ _ _ _ hl0] at g1
            have hm : imul .i64 (Int.ofNat 10) (l : Int) = ((l * 10 : Nat) : Int) := i_mull (by omega)
            have hx : iquo .i64 (imul .i64 (Int.ofNat 10) (l : Int)) (k : Int) = ((l * 10 / k : Nat) : Int) := by rw [hm, i_quo (by omega)]
            have hr : irem (imul .i64 (Int.ofNat 10) (l : Int)) (k : Int) = ((l * 10 % k : Nat) : Int) := by rw [hm, u_rem]
            have hd := dig_small l k g2
            have hrm : roomS (s.length + (Lib.decDigits (l * 10 / k)).length) = true := roomS_t (by omega)
            repeat' ((first | refine bt ?_ | refine bf ?_ | refine vpur_i (whole_ok' hx (Nat.le_trans (Nat.div_le_self _ _) (by omega)) []) ?_ | refine vb_t hrm ?_ | refine vl ?_ | fail) <;> conv => whnf)
            refine ⟨⟨(s ++ Lib.decDigits (l * 10 / k), l * 10 % k, f), by simp only [List.append_assoc]; exact g1, Nat.mod_lt _ (by omega), pow_mod k f l g3, by simp only [List.length_append]; omega⟩, by simp only; omega, cons_eq rfl (cons_eq rfl (cons_eq rfl (cons_eq (slot_eq (I_eq hr)) rfl))), rfl, rfl, rfl⟩
         · have hl0 : l = 0 := by (first | omega | (simp only [ilt_t, ilt_f, ile_t, ile_f, ieq_t, ieq_f, ofn, List.length_map, Bool.not_eq_true', Bool.not_eq_false'] at *; omega))
           subst hl0
           rw [frac_zero, List.append_nil] at g1
           subst g1
           repeat' ((first | refine bt ?_ | refine bf ?_ | refine vl ?_ | fail) <;> conv => whnf)
           exact ⟨rfl, rfl⟩
       · have q5 : ilt (Int.ofNat 0) (irem (n) (k : Int)) = false := by rw [hr0, ilt_f]; simp only [Int.ofNat_eq_natCast]; omega
         repeat' ((first | refine bt ?_ | refine bf ?_ | refine vpur_i (whole_ok' hx0 (by omega) []) ?_ | refine vb_t (roomS_t (by simp; omega)) ?_ | refine vl ?_ | fail) <;> conv => whnf)
         rw [hr0]
         obtain ⟨l0, hl0⟩ : ∃ l0 : Nat, m % k = l0 := ⟨_, rfl⟩
         rw [if_neg hl, hl0] at hN
         rw [hl0] at hlk0 ⊢
         have hlk := hlk0
         have hl6 := pow_first k l0 hk
         obtain ⟨s0, hs⟩ : ∃ s0 : List UInt8, [] ++ Lib.decDigits (m / k) = s0 := ⟨_, rfl⟩
         have hs0 : s0.length + 30 * 6 ≤ 400 := by rw [← hs]; simp; omega
         refine vloop_eq2 (fr' := [(1, I k), (4, S []), (5, S s0), (6, I l0)]) (h' := []) ?_ rfl ?_
         · subst hs; rfl
         obtain ⟨T, hTe⟩ : ∃ T : List UInt8, numText n k = T := ⟨_, rfl⟩
         have hT : s0 ++ fracT k 6 l0 = T := by rw [← hTe, hN, ← hs]; simp
         rw [hTe]
         refine vloop_by (σ := { x : List UInt8 × Nat × Nat // x.1 ++ fracT k x.2.2 x.2.1 = T ∧ x.2.1 < k ∧ x.2.1 * 10 ^ x.2.2 % k = 0 ∧ x.1.length + 30 * x.2.2 ≤ 400 }) (fun x => [(1, I k), (4, S []), (5, S x.1.1), (6, I x.1.2.1)]) (fun _ => []) (fun x => x.1.2.2) ?_ ⟨(s0, l0, 6), hT, hlk, hl6, hs0⟩
         rintro ⟨⟨s, l, f⟩, g1, g2, g3, g4⟩
         simp only at g1 g2 g3 g4
         conv => whnf
         refine vb_i (fun h => ?_) (fun h => ?_) <;> conv => whnf
         · have hl0 : l ≠ 0 := by (first | omega | (simp only [ilt_t, ilt_f, ile_t, ile_f, ieq_t, ieq_f, ofn, List.length_map, Bool.not_eq_true', Bool.not_eq_false'] at *; omega))
           cases f with
           | zero => exact absurd (by simpa [Nat.mod_eq_of_lt g2] using g3) hl0
           | succ f =>
            rw [frac_succ _ _ _ hl0] at g1
            have hm : imul .i64 (Int.ofNat 10) (l : Int) = ((l * 10 : Nat) : Int) := i_mull (by omega)
            have hx : iquo .i64 (imul .i64 (Int.ofNat 10) (l : Int)) (k : Int) = ((l * 10 / k : Nat) : Int) := by rw [hm, i_quo (by omega)]
            have hr : irem (imul .i64 (Int.ofNat 10) (l : Int)) (k : Int) = ((l * 10 % k : Nat) : Int) := by rw [hm, u_rem]
            have hd := dig_small l k g2
            have hrm : roomS (s.length + (Lib.decDigits (l * 10 / k)).length) = true := roomS_t (by omega)
            repeat' ((first | refine bt ?_ | refine bf ?_ | refine vpur_i (whole_ok' hx (Nat.le_trans (Nat.div_le_self _ _) (by omega)) []) ?_ | refine vb_t hrm ?_ | refine vl ?_ | fail) <;> conv => whnf)
            refine ⟨⟨(s ++ Lib.decDigits (l * 10 / k), l * 10 % k, f), by simp only [List.append_assoc]; exact g1, Nat.mod_lt _ (by omega), pow_mod k f l g3, by simp only [List.length_append]; omega⟩, by simp only; omega, cons_eq rfl (cons_eq rfl (cons_eq rfl (cons_eq (slot_eq (I_eq hr)) rfl))), rfl, rfl, rfl⟩
         · have hl0 : l = 0 := by (first | omega | (simp only [ilt_t, ilt_f, ile_t, ile_f, ieq_t, ieq_f, ofn, List.length_map, Bool.not_eq_true', Bool.not_eq_false'] at *; omega))
           subst hl0
           rw [frac_zero, List.append_nil] at g1
           subst g1
           repeat' ((first | refine bt ?_ | refine bf ?_ | refine vl ?_ | fail) <;> conv => whnf)
           exact ⟨rfl, rfl⟩
     · repeat' ((first | refine bt ?_ | refine bf ?_ | refine vpur_i (refIs_ok _) ?_ | refine vl ?_ | fail) <;> conv => whnf)
       have hx0 : iquo .i64 (n) (k : Int) = ((m / k : Nat) : Int) := by rw [hmm, i_quo (by omega)]
       have hr0 : irem (n) (k : Int) = ((m % k : Nat) : Int) := by rw [hmm, u_rem]
       have hmk : m / k ≤ m := Nat.div_le_self _ _
       have hd0 := dec_le (m / k) (by omega)
       have hlk0 : m % k < k := Nat.mod_lt _ (by omega)
       by_cases hl : 0 < m % k
       · have q5 : ilt (Int.ofNat 0) (irem (n) (k : Int)) = true := by rw [hr0, ilt_t]; simp only [Int.ofNat_eq_natCast]; omega
         repeat' ((first | refine bt ?_ | refine bf ?_ | refine vpur_i (whole_ok' hx0 (by omega) []) ?_ | refine vb_t (roomS_t (by simp; omega)) ?_ | refine vl ?_ | fail) <;> conv => whnf)
         rw [hr0]
         obtain ⟨l0, hl0⟩ : ∃ l0 : Nat, m % k = l0 := ⟨_, rfl⟩
         rw [if_pos hl, hl0] at hN
         rw [hl0] at hlk0 ⊢
         have hlk := hlk0
         have hl6 := pow_first k l0 hk
         obtain ⟨s0, hs⟩ : ∃ s0 : List UInt8, ([] ++ Lib.decDigits (m / k)) ++ [46] = s0 := ⟨_, rfl⟩
         have hs0 : s0.length + 30 * 6 ≤ 400 := by rw [← hs]; simp; omega
         refine vloop_eq2 (fr' := [(1, I k), (4, S []), (5, S s0), (6, I l0)]) (h' := []) ?_ rfl ?_
         · subst hs; rfl
         obtain ⟨T, hTe⟩ : ∃ T : List UInt8, numText n k = T := ⟨_, rfl⟩
         have hT : s0 ++ fracT k 6 l0 = T := by rw [← hTe, hN, ← hs]; simp
         rw [hTe]
         refine vloop_by (σ := { x : List UInt8 × Nat × Nat // x.1 ++ fracT k x.2.2 x.2.1 = T ∧ x.2.1 < k ∧ x.2.1 * 10 ^ x.2.2 % k = 0 ∧ x.1.length + 30 * x.2.2 ≤ 400 }) (fun x => [(1, I k), (4, S []), (5, S x.1.1), (6, I x.1.2.1)]) (fun _ => []) (fun x => x.1.2.2) ?_ ⟨(s0, l0, 6), hT, hlk, hl6, hs0⟩
         rintro ⟨⟨s, l, f⟩, g1, g2, g3, g4⟩
         simp only at g1 g2 g3 g4
         conv => whnf
         refine vb_i (fun h => ?_) (fun h => ?_) <;> conv => whnf
         · have hl0 : l ≠ 0 := by (first | omega | (simp only [ilt_t, ilt_f, ile_t, ile_f, ieq_t, ieq_f, ofn, List.length_map, Bool.not_eq_true', Bool.not_eq_false'] at *; omega))
           cases f with
           | zero => exact absurd (by simpa [Nat.mod_eq_of_lt g2] using g3) hl0
           | succ f =>
            rw [frac_succ _ _ _ hl0] at g1
            have hm : imul .i64 (Int.ofNat 10) (l : Int) = ((l * 10 : Nat) : Int) := i_mull (by omega)
            have hx : iquo .i64 (imul .i64 (Int.ofNat 10) (l : Int)) (k : Int) = ((l * 10 / k : Nat) : Int) := by rw [hm, i_quo (by omega)]
            have hr : irem (imul .i64 (Int.ofNat 10) (l : Int)) (k : Int) = ((l * 10 % k : Nat) : Int) := by rw [hm, u_rem]
            have hd := dig_small l k g2
            have hrm : roomS (s.length + (Lib.decDigits (l * 10 / k)).length) = true := roomS_t (by omega)
            repeat' ((first | refine bt ?_ | refine bf ?_ | refine vpur_i (whole_ok' hx (Nat.le_trans (Nat.div_le_self _ _) (by omega)) []) ?_ | refine vb_t hrm ?_ | refine vl ?_ | fail) <;> conv => whnf)
            refine ⟨⟨(s ++ Lib.decDigits (l * 10 / k), l * 10 % k, f), by simp only [List.append_assoc]; exact g1, Nat.mod_lt _ (by omega), pow_mod k f l g3, by simp only [List.length_append]; omega⟩, by simp only; omega, cons_eq rfl (cons_eq rfl (cons_eq rfl (cons_eq (slot_eq (I_eq hr)) rfl))), rfl, rfl, rfl⟩
         · have hl0 : l = 0 := by (first | omega | (simp only [ilt_t, ilt_f, ile_t, ile_f, ieq_t, ieq_f, ofn, List.length_map, Bool.not_eq_true', Bool.not_eq_false'] at *; omega))
           subst hl0
           rw [frac_zero, List.append_nil] at g1
           subst g1
           repeat' ((first | refine bt ?_ | refine bf ?_ | refine vl ?_ | fail) <;> conv => whnf)
           exact ⟨rfl, rfl⟩
       · have q5 : ilt (Int.ofNat 0) (irem (n) (k : Int)) = false := by rw [hr0, ilt_f]; simp only [Int.ofNat_eq_natCast]; omega
         repeat' ((first | refine bt ?_ | refine bf ?_ | refine vpur_i (whole_ok' hx0 (by omega) []) ?_ | refine vb_t (roomS_t (by simp; omega)) ?_ | refine vl ?_ | fail) <;> conv => whnf)
         rw [hr0]
         obtain ⟨l0, hl0⟩ : ∃ l0 : Nat, m % k = l0 := ⟨_, rfl⟩
         rw [if_neg hl, hl0] at hN
         rw [hl0] at hlk0 ⊢
         have hlk := hlk0
         have hl6 := pow_first k l0 hk
         obtain ⟨s0, hs⟩ : ∃ s0 : List UInt8, [] ++ Lib.decDigits (m / k) = s0 := ⟨_, rfl⟩
         have hs0 : s0.length + 30 * 6 ≤ 400 := by rw [← hs]; simp; omega
         refine vloop_eq2 (fr' := [(1, I k), (4, S []), (5, S s0), (6, I l0)]) (h' := []) ?_ rfl ?_
         · subst hs; rfl
         obtain ⟨T, hTe⟩ : ∃ T : List UInt8, numText n k = T := ⟨_, rfl⟩
         have hT : s0 ++ fracT k 6 l0 = T := by rw [← hTe, hN, ← hs]; simp
         rw [hTe]
         refine vloop_by (σ := { x : List UInt8 × Nat × Nat // x.1 ++ fracT k x.2.2 x.2.1 = T ∧ x.2.1 < k ∧ x.2.1 * 10 ^ x.2.2 % k = 0 ∧ x.1.length + 30 * x.2.2 ≤ 400 }) (fun x => [(1, I k), (4, S []), (5, S x.1.1), (6, I x.1.2.1)]) (fun _ => []) (fun x => x.1.2.2) ?_ ⟨(s0, l0, 6), hT, hlk, hl6, hs0⟩
         rintro ⟨⟨s, l, f⟩, g1, g2, g3, g4⟩
         simp only at g1 g2 g3 g4
         conv => whnf
         refine vb_i (fun h => ?_) (fun h => ?_) <;> conv => whnf
         · have hl0 : l ≠ 0 := by (first | omega | (simp only [ilt_t, ilt_f, ile_t, ile_f, ieq_t, ieq_f, ofn, List.length_map, Bool.not_eq_true', Bool.not_eq_false'] at *; omega))
           cases f with
           | zero => exact absurd (by simpa [Nat.mod_eq_of_lt g2] using g3) hl0
           | succ f =>
            rw [frac_succ _ _ _ hl0] at g1
            have hm : imul .i64 (Int.ofNat 10) (l : Int) = ((l * 10 : Nat) : Int) := i_mull (by omega)
            have hx : iquo .i64 (imul .i64 (Int.ofNat 10) (l : Int)) (k : Int) = ((l * 10 / k : Nat) : Int) := by rw [hm, i_quo (by omega)]
            have hr : irem (imul .i64 (Int.ofNat 10) (l : Int)) (k : Int) = ((l * 10 % k : Nat) : Int) := by rw [hm, u_rem]
            have hd := dig_small l k g2
            have hrm : roomS (s.length + (Lib.decDigits (l * 10 / k)).length) = true := roomS_t (by omega)
            repeat' ((first | refine bt ?_ | refine bf ?_ | refine vpur_i (whole_ok' hx (Nat.le_trans (Nat.div_le_self _ _) (by omega)) []) ?_ | refine vb_t hrm ?_ | refine vl ?_ | fail) <;> conv => whnf)
            refine ⟨⟨(s ++ Lib.decDigits (l * 10 / k), l * 10 % k, f), by simp only [List.append_assoc]; exact g1, Nat.mod_lt _ (by omega), pow_mod k f l g3, by simp only [List.length_append]; omega⟩, by simp only; omega, cons_eq rfl (cons_eq rfl (cons_eq rfl (cons_eq (slot_eq (I_eq hr)) rfl))), rfl, rfl, rfl⟩
         · have hl0 : l = 0 := by (first | omega | (simp only [ilt_t, ilt_f, ile_t, ile_f, ieq_t, ieq_f, ofn, List.length_map, Bool.not_eq_true', Bool.not_eq_false'] at *; omega))
           subst hl0
           rw [frac_zero, List.append_nil] at g1
           subst g1
           repeat' ((first | refine bt ?_ | refine bf ?_ | refine vl ?_ | fail) <;> conv => whnf)
           exact ⟨rfl, rfl⟩
 · have hN : numText n sc = [] := by unfold numText; rw [if_neg hg]
   rw [hN]
   refine pur_code (cf := cfn Tryz.f60) (by kernel_rfl) ?_
   conv => arg 3; reduce
   conv => whnf
   repeat' ((first | refine bt ?_ | refine bf ?_ | refine vpur_i (refIs_ok _) ?_ | refine vl ?_ | refine vb_i (fun h => ?_) (fun h => ?_) | fail) <;> conv => whnf)
   all_goals first
    | exact ⟨rfl, rfl⟩
    | (exfalso
       simp only [Bool.not_eq_true', Bool.not_eq_false', ieq_t, ieq_f, Int.ofNat_eq_natCast] at *
       apply hg
       refine ⟨by assumption, ?_⟩
       unfold isSc
       omega)
end Go.Proofs.YtlhajccbfapieaaGreatDoor.Ab
namespace Go.Proofs.YtlhajccbfapieaaGreatDoor.Ab
open Go
set_option linter.unusedSimpArgs false
set_option maxRecDepth 100000
set_option linter.unusedVariables false
set_option maxHeartbeats 4000000
theorem frac_len (sc : Nat) : ∀ (f l : Nat), l < sc → (fracT sc f l).length ≤ 20 * f
 | 0, l, h => by simp [fracT]
 | f + 1, l, h => by
  unfold fracT
  split
  · simp
  · have h1 := frac_len sc f (l * 10 % sc) (Nat.mod_lt _ (by omega))
    have h2 := dig_small l sc h
    rw [List.length_append]
    omega
theorem numText_len (n sc : Int) : (numText n sc).length ≤ 200 := by
 unfold numText
 split
 · rename_i h
   obtain ⟨h1, h2⟩ := h
   have hb : -68719476736 ≤ n ∧ n ≤ 68719476736 := by simpa [isPx] using h1
   have hk : 0 < sc.toNat := by unfold isSc at h2; omega
   unfold posText
   have h3 := frac_len sc.toNat 6 (n.natAbs % sc.toNat) (Nat.mod_lt _ hk)
   have h4 := dec_le (n.natAbs / sc.toNat) (Nat.lt_of_le_of_lt (Nat.div_le_self _ _) (by omega))
   simp only [List.length_append]
   (repeat' split) <;> simp only [List.length_cons, List.length_nil] <;> omega
 · simp
def valText (k n : Int) : List UInt8 := if goodL k n 63 = true then (if k = 2 then numText n 64 ++ [112, 120] else if k = 3 then numText n 1000 ++ [37] else if k = 6 then numText n 1000 ++ [102, 114] else keyText k) else []
theorem vtext_ok (k n : Int) : Pur F0 29 [.agg [I k, I n]] [] .no (.ret (S (valText k n))) .no := by
 refine pur_code (cf := cfn Tryz.f29) (by kernel_rfl) ?_
 conv => arg 3; reduce
 conv => whnf
 have l1 := numText_len n 64
 have l2 := numText_len n 1000
 have r1 : roomS ((numText n (Int.ofNat 64)).length + ([112, 120] : List UInt8).length) = true := roomS_t (Nat.le_trans (Nat.add_le_add_right l1 2) (by decide))
 have r2 : roomS ((numText n (Int.ofNat 1000)).length + ([37] : List UInt8).length) = true := roomS_t (Nat.le_trans (Nat.add_le_add_right l2 1) (by decide))
 have r3 : roomS ((numText n (Int.ofNat 1000)).length + ([102, 114] : List UInt8).length) = true := roomS_t (Nat.le_trans (Nat.add_le_add_right l2 2) (by decide))
 repeat' ((first | refine bt ?_ | refine bf ?_ | refine vpur_i (good_ok _ _ _) ?_ | refine vpur_i (ndText_ok _ _) ?_ | refine vpur_i (keyText_ok _) ?_ | refine vl ?_ | refine vb_i (fun h => ?_) (fun h => ?_) | fail) <;> conv => whnf)
 all_goals refine ⟨congrArg CR.ret (S_eq ?_), rfl⟩
 all_goals clear r1 r2 r3 l1 l2
 all_goals simp only [Bool.not_eq_true', Bool.not_eq_false', ieq_t, ieq_f, lit2, lit3, lit6, lit63, lit64, litK] at *
 all_goals (unfold valText; simp_all)
theorem kw_row (k : Int) (h1 : 1 ≤ k) (h2 : k ≤ 7) : iget [[DV.str [97, 117, 116, 111]], [DV.str []], [DV.str []], [DV.str [109, 105, 110, 45, 99, 111, 110, 116, 101, 110, 116]], [DV.str [109, 97, 120, 45, 99, 111, 110, 116, 101, 110, 116]], [DV.str []], [DV.str [110, 111, 110, 101]]] (isub .i64 k (Int.ofNat 1)) = some [DV.str (keyText k)] := by
 have : k = 1 ∨ k = 2 ∨ k = 3 ∨ k = 4 ∨ k = 5 ∨ k = 6 ∨ k = 7 := by omega
 rw [lit1, isub64 (by omega) (by omega)]
 rcases this with rfl | rfl | rfl | rfl | rfl | rfl | rfl <;> (unfold iget; rfl)
theorem kw_row2 (k : Int) (h1 : 1 ≤ k) (h2 : k ≤ 7) : ([[DV.str [97, 117, 116, 111]], [DV.str []], [DV.str []], [DV.str [109, 105, 110, 45, 99, 111, 110, 116, 101, 110, 116]], [DV.str [109, 97, 120, 45, 99, 111, 110, 116, 101, 110, 116]], [DV.str []], [DV.str [110, 111, 110, 101]]] : List (List DV))[0 + (isub .i64 k (Int.ofNat 1)).toNat]? = some [DV.str (keyText k)] := by
 have : k = 1 ∨ k = 2 ∨ k = 3 ∨ k = 4 ∨ k = 5 ∨ k = 6 ∨ k = 7 := by omega
 rw [lit1, isub64 (by omega) (by omega)]
 rcases this with rfl | rfl | rfl | rfl | rfl | rfl | rfl <;> rfl
theorem good_kind (k n a : Int) (h : goodL k n a = true) : 1 ≤ k ∧ k ≤ 7 := by
 unfold goodL keyBit at h
 have h0 := has0 a
 (repeat' split at h) <;> first | omega | (simp [h0] at h)
theorem rvtext_ok (k n : Int) : Pur F0 31 [.agg [I k, I n]] [] .no (.ret (S (valText k n))) .no := by
 refine pur_code (cf := cfn Tryz.f31) (by kernel_rfl) ?_
 conv => arg 3; reduce
 conv => whnf
 have l1 := numText_len n 64
 have l2 := numText_len n 1000
 have r1 : roomS ((numText n (Int.ofNat 64)).length + ([112, 120] : List UInt8).length) = true := roomS_t (Nat.le_trans (Nat.add_le_add_right l1 2) (by decide))
 have r2 : roomS ((numText n (Int.ofNat 1000)).length + ([37] : List UInt8).length) = true := roomS_t (Nat.le_trans (Nat.add_le_add_right l2 1) (by decide))
 have r3 : roomS ((numText n (Int.ofNat 1000)).length + ([102, 114] : List UInt8).length) = true := roomS_t (Nat.le_trans (Nat.add_le_add_right l2 2) (by decide))
 by_cases hg : goodL k n 63 = true
 · obtain ⟨k1, k7⟩ := good_kind k n 63 hg
   have hw := kw_row k k1 k7
   have hq : (!goodL k n (Int.ofNat 63)) = false := by rw [lit63, hg]; rfl
   repeat' ((first | refine bt ?_ | refine bf ?_ | refine vpur_i (rgood_ok _ _ _) ?_ | refine vpur_i (rtext_ok _ _) ?_ | refine vl ?_ | refine vb_i (fun h => ?_) (fun h => ?_) | fail) <;> conv => whnf)
   rotate_left 3
   · clear r1 r2 r3 l1 l2
     refine vo_i hw ?_
     conv => whnf
     refine vb_t rfl ?_
     conv => whnf
     refine vo_i (kw_row2 k k1 k7) ?_
     conv => whnf
     refine ⟨congrArg CR.ret (S_eq ?_), rfl⟩
     clear hw hq
     simp only [Bool.not_eq_true', Bool.not_eq_false', ieq_t, ieq_f, lit2, lit3, lit6, lit63, lit64, litK] at *
     unfold valText
     simp_all
   all_goals refine ⟨congrArg CR.ret (S_eq ?_), rfl⟩
   all_goals clear r1 r2 r3 l1 l2 hw hq
   all_goals simp only [Bool.not_eq_true', Bool.not_eq_false', ieq_t, ieq_f, lit2, lit3, lit6, lit63, lit64, litK] at *
   all_goals (unfold valText; simp_all)
 · have hq : (!goodL k n (Int.ofNat 63)) = true := by rw [lit63]; simpa using hg
   repeat' ((first | refine bt ?_ | refine bf ?_ | refine vpur_i (rgood_ok _ _ _) ?_ | refine vl ?_ | fail) <;> conv => whnf)
   exact ⟨congrArg CR.ret (S_eq (by unfold valText; rw [if_neg hg])), rfl⟩
end Go.Proofs.YtlhajccbfapieaaGreatDoor.Ab
