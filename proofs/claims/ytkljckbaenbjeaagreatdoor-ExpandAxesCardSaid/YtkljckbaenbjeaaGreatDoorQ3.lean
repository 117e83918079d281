/- Some texts as one, one behind the other; what is not leaned on is left out. -/
import Derived.Test.YtkljckbaenbjeaaGreatDoorQ2
import Derived.Test.YtkljckbaenbjeaaGreatDoorC00q
import Derived.Test.YtkljckbaenbjeaaGreatDoorQ1
import Derived.Test.YtkljckbaenbjeaaGreatDoorAbTy
set_option linter.unusedSimpArgs false
set_option linter.unusedVariables false
namespace Go.Proofs.YtkljckbaenbjeaaGreatDoor.Ab
open Go
set_option linter.unusedSimpArgs false
set_option maxRecDepth 100000
set_option linter.unusedVariables false
set_option maxHeartbeats 4000000
end Go.Proofs.YtkljckbaenbjeaaGreatDoor.Ab
namespace Go.Proofs.YtkljckbaenbjeaaGreatDoor.Ab
open Go
set_option linter.unusedSimpArgs false
set_option maxRecDepth 100000
set_option linter.unusedVariables false
set_option maxHeartbeats 4000000
end Go.Proofs.YtkljckbaenbjeaaGreatDoor.Ab
namespace Go.Proofs.YtkljckbaenbjeaaGreatDoor.Ab
open Go
set_option linter.unusedSimpArgs false
set_option maxRecDepth 100000
set_option linter.unusedVariables false
set_option maxHeartbeats 4000000
end Go.Proofs.YtkljckbaenbjeaaGreatDoor.Ab
namespace Go.Proofs.YtkljckbaenbjeaaGreatDoor.Ab
open Go
set_option linter.unusedSimpArgs false
set_option maxRecDepth 100000
set_option linter.unusedVariables false
set_option maxHeartbeats 4000000
theorem lower_length (s : List UInt8) : (lower s).length = s.length := by unfold lower; simp
theorem rlow_up {c : UInt8} (h1 : 65 ≤ c.toNat) (h2 : c.toNat ≤ 90) : iadd .u8 (isub .u8 (c.toNat : Int) (Int.ofNat 65)) (Int.ofNat 97) = ((low c).toNat : Int) := by
 have e : low c = c + 32 := by unfold low; rw [if_pos ⟨h1, h2⟩]
 have e2 : (c + 32).toNat = c.toNat + 32 := by rw [UInt8.toNat_add]; have : (32 : UInt8).toNat = 32 := rfl; omega
 rw [e, e2]
 unfold iadd isub
 simp only [IntKind.wrap, IntKind.signed, IntKind.bits, Bool.false_and, Bool.false_eq_true, if_false, ofn]
 omega
theorem byteText (c : UInt8) : textOf [[DV.int .u8 (c.toNat : Int)]] = some [c] := by
 have := c.toNat_lt
 show textOf [byteRow c] = some [c]
 exact textOf_bytes [c]
theorem rlower_ok (s : List UInt8) (hs : s.length ≤ 1000000) : Pur F0 156 [S s] [] .no (.ret (S (lower s))) .no := by
 refine pur_code code156_ok ?_
 conv => whnf
 refine vloop_by (σ := { i : Nat // i ≤ s.length }) (fun i => [(0, S s), (2, S []), (3, S (lower (s.take i.1))), (4, I (i.1 : Int))]) (fun _ => []) (fun i => s.length - i.1) ?_ ⟨0, Nat.zero_le _⟩
 rintro ⟨i, hi⟩
 conv => whnf
 by_cases hlt : i < s.length
 · have q1 : ilt (i : Int) (s.length : Int) = true := by rw [ilt_t]; omega
   obtain ⟨c, hc⟩ : ∃ c, s[i]? = some c := ⟨s[i], List.getElem?_eq_getElem hlt⟩
   have hg : iget s (i : Int) = some c := iget_t hc
   have hnx : lower (s.take (i + 1)) = lower (s.take i) ++ [low c] := by
    unfold lower; rw [List.take_add_one, hc, List.map_append]; rfl
   have hll : (lower (s.take i)).length ≤ 1000000 := by rw [lower_length, List.length_take]; omega
   by_cases hu : 65 ≤ c.toNat ∧ c.toNat ≤ 90
   · have q2 : ile (Int.ofNat 65) (c.toNat : Int) = true := by rw [ile_t, ofn]; omega
     have q3 : ile (c.toNat : Int) (Int.ofNat 90) = true := by rw [ile_t, ofn]; omega
     have hb : textOf [[DV.int .u8 (iadd .u8 (isub .u8 (c.toNat : Int) (Int.ofNat 65)) (Int.ofNat 97))]] = some [low c] := by rw [rlow_up hu.1 hu.2]; exact byteText _
     repeat' ((first | refine bt ?_ | refine bf ?_ | refine vo_i hg ?_ | refine vo_i hb ?_ | refine vb_t (roomS_t (by simp <;> omega)) ?_ | refine vl ?_ | fail) <;> conv => whnf)
     exact ⟨⟨i + 1, by omega⟩, by simp only; omega, cons_eq rfl (cons_eq rfl (cons_eq (slot_eq (S_eq hnx.symm)) (cons_eq (slot_eq (I_eq (iadd_one (i := i) (by omega)))) rfl))), rfl, rfl, rfl⟩
   · have hl : low c = c := by unfold low; rw [if_neg hu]
     have hb : textOf [[DV.int .u8 (c.toNat : Int)]] = some [low c] := by rw [hl]; exact byteText _
     by_cases h1 : 65 ≤ c.toNat
     · have q2 : ile (Int.ofNat 65) (c.toNat : Int) = true := by rw [ile_t, ofn]; omega
       have q3 : ile (c.toNat : Int) (Int.ofNat 90) = false := by rw [ile_f, ofn]; omega
       repeat' ((first | refine bt ?_ | refine bf ?_ | refine vo_i hg ?_ | refine vo_i hb ?_ | refine vb_t (roomS_t (by simp <;> omega)) ?_ | refine vl ?_ | fail) <;> conv => whnf)
       exact ⟨⟨i + 1, by omega⟩, by simp only; omega, cons_eq rfl (cons_eq rfl (cons_eq (slot_eq (S_eq hnx.symm)) (cons_eq (slot_eq (I_eq (iadd_one (i := i) (by omega)))) rfl))), rfl, rfl, rfl⟩
     · have q2 : ile (Int.ofNat 65) (c.toNat : Int) = false := by rw [ile_f, ofn]; omega
       repeat' ((first | refine bt ?_ | refine bf ?_ | refine vo_i hg ?_ | refine vo_i hb ?_ | refine vb_t (roomS_t (by simp <;> omega)) ?_ | refine vl ?_ | fail) <;> conv => whnf)
       exact ⟨⟨i + 1, by omega⟩, by simp only; omega, cons_eq rfl (cons_eq rfl (cons_eq (slot_eq (S_eq hnx.symm)) (cons_eq (slot_eq (I_eq (iadd_one (i := i) (by omega)))) rfl))), rfl, rfl, rfl⟩
 · have q1 : ilt (i : Int) (s.length : Int) = false := by rw [ilt_f]; omega
   repeat' ((first | refine bt ?_ | refine bf ?_ | refine vl ?_ | fail) <;> conv => whnf)
   exact ⟨congrArg CR.ret (S_eq (by show lower (s.take i) = lower s; rw [List.take_of_length_le (by omega)])), rfl⟩
theorem ris_ok (s k : List UInt8) (hs : s.length ≤ 1000000) (hk : k.length ≤ 1000000) : Pur F0 144 [S s, S k] [] .no (.ret (B (seq (lower s) (lower k)))) .no := by
 refine pur_code code144_ok ?_
 conv => whnf
 repeat' ((first | refine bt ?_ | refine bf ?_ | refine vpur_i (rlower_ok s hs) ?_ | refine vpur_i (rlower_ok k hk) ?_ | refine vl ?_ | fail) <;> conv => whnf)
 exact ⟨rfl, rfl⟩
def wsRow (s : List UInt8) : List DV := [.str s]
end Go.Proofs.YtkljckbaenbjeaaGreatDoor.Ab
namespace Go.Proofs.YtkljckbaenbjeaaGreatDoor.Ab
open Go Go.ChangeShapes Go.WideShapes Go.RowKit
set_option linter.unusedSimpArgs false
set_option maxRecDepth 100000
set_option linter.unusedVariables false
def SlV (sz : Nat) (rows : List (List DV)) (v : DV) : Prop := (v = .nilsl ∧ rows = []) ∨ v = .sl sz rows
inductive Pc where
 | mk (kind : Int) (vn : DV) (names : List (List UInt8)) (t : Trk) (count : Int) (vi : DV) (inner : List Pc)
 deriving Inhabited
def Pc.kind : Pc → Int
 | .mk k _ _ _ _ _ _ => k
def Pc.names : Pc → List (List UInt8)
 | .mk _ _ n _ _ _ _ => n
def Pc.t : Pc → Trk
 | .mk _ _ _ t _ _ _ => t
def Pc.count : Pc → Int
 | .mk _ _ _ _ c _ _ => c
def Pc.inner : Pc → List Pc
 | .mk _ _ _ _ _ _ i => i
def pcRow : Pc → List DV
 | .mk k vn _ t c vi _ => [.int .i64 k, vn, .int .i64 t.ak, .int .i64 t.an, .int .i64 t.bk, .int .i64 t.bn, .bool t.fit, .int .i64 t.lk, .int .i64 t.ln, .int .i64 c, vi]
inductive PcOk : Pc → Prop
 | mk {k : Int} {vn : DV} {names : List (List UInt8)} {t : Trk} {c : Int} {vi : DV} {inner : List Pc} (hn : SlV 1 (names.map wsRow) vn) (hi : SlV 11 (inner.map pcRow) vi) (h : ∀ q ∈ inner, PcOk q) : PcOk (.mk k vn names t c vi inner)
theorem trk_of {d : Nat} {xs : List DV} (h : Shape Tryz.prog d 41 xs) : ∃ t : Trk, xs = trkRow t := by
 cases d with
 | zero => exact h.elim
 | succ d =>
  rw [Shape, Tryz.underlying41] at h
  obtain ⟨x0, r0, rfl, h0, x1, r1, rfl, h1, x2, r2, rfl, h2, x3, r3, rfl, h3, rfl⟩ := h
  obtain ⟨a, b, rfl⟩ := len_of h0
  obtain ⟨c, e, rfl⟩ := len_of h1
  obtain ⟨f, rfl⟩ := bool_of h2
  obtain ⟨g, i, rfl⟩ := len_of h3
  exact ⟨⟨a, b, c, e, f, g, i⟩, rfl⟩
theorem cellsStr : Tryz.prog.cellsOf 9 = 1 := by kernel_rfl
theorem strRows_of {d : Nat} : ∀ {rows : List (List DV)}, (∀ row ∈ rows, Shape Tryz.prog d 9 row) → ∃ l : List (List UInt8), rows = l.map wsRow
 | [], _ => ⟨[], rfl⟩
 | row :: rows, h => by
  obtain ⟨s, rfl, _⟩ := string_of (h row (List.mem_cons_self ..))
  obtain ⟨l, rfl⟩ := strRows_of fun r hr => h r (List.mem_cons_of_mem _ hr)
  exact ⟨s :: l, rfl⟩
theorem strs_of {d : Nat} {xs : List DV} (h : Shape Tryz.prog d 37 xs) : ∃ (l : List (List UInt8)) (v : DV), SlV 1 (l.map wsRow) v ∧ xs = [v] := by
 cases d with
 | zero => exact h.elim
 | succ d =>
  rw [Shape, Tryz.underlying37] at h
  rcases h with rfl | ⟨rows, rfl, hr, _⟩
  · exact ⟨[], .nilsl, .inl ⟨rfl, rfl⟩, rfl⟩
  · obtain ⟨l, rfl⟩ := strRows_of hr
    rw [cellsStr]
    exact ⟨l, _, .inr rfl, rfl⟩
theorem cellsPc : Tryz.prog.cellsOf 43 = 11 := by kernel_rfl
theorem pcRows_of {d : Nat} (ih : ∀ row, Shape Tryz.prog d 43 row → ∃ p, row = pcRow p ∧ PcOk p) : ∀ {rows : List (List DV)}, (∀ row ∈ rows, Shape Tryz.prog d 43 row) → ∃ l : List Pc, rows = l.map pcRow ∧ ∀ p ∈ l, PcOk p
 | [], _ => ⟨[], rfl, fun p h => by cases h⟩
 | row :: rows, h => by
  obtain ⟨s, rfl, hs⟩ := ih row (h row (List.mem_cons_self ..))
  obtain ⟨l, rfl, hl⟩ := pcRows_of ih fun r hr => h r (List.mem_cons_of_mem _ hr)
  refine ⟨s :: l, rfl, fun p hp => ?_⟩
  rcases List.mem_cons.1 hp with rfl | hp
  · exact hs
  · exact hl p hp
theorem pieces_gen {d : Nat} (ih : ∀ d', d' < d → ∀ row, Shape Tryz.prog d' 43 row → ∃ p, row = pcRow p ∧ PcOk p) {xs : List DV} (h : Shape Tryz.prog d 22 xs) : ∃ (l : List Pc) (v : DV), SlV 11 (l.map pcRow) v ∧ (∀ p ∈ l, PcOk p) ∧ xs = [v] ∧ l.length ≤ maxLen := by
 cases d with
 | zero => exact h.elim
 | succ d =>
  rw [Shape, Tryz.underlying22] at h
  rcases h with rfl | ⟨rows, rfl, hr, hl⟩
  · exact ⟨[], .nilsl, .inl ⟨rfl, rfl⟩, (fun p h => by cases h), rfl, Nat.zero_le _⟩
  · obtain ⟨l, rfl, hok⟩ := pcRows_of (ih d (Nat.lt_succ_self d)) hr
    rw [cellsPc]
    exact ⟨l, _, .inr rfl, hok, rfl, by simpa using hl⟩
theorem pc_of : ∀ (d : Nat) {row : List DV}, Shape Tryz.prog d 43 row → ∃ p, row = pcRow p ∧ PcOk p := by
 intro d
 induction d using Nat.strongRecOn with
 | ind d ih =>
  intro row h
  cases d with
  | zero => exact h.elim
  | succ d =>
   rw [Shape, Tryz.underlying43] at h
   obtain ⟨x0, r0, rfl, h0, x1, r1, rfl, h1, x2, r2, rfl, h2, x3, r3, rfl, h3, x4, r4, rfl, h4, rfl⟩ := h
   obtain ⟨k, rfl, _⟩ := int_of h0
   obtain ⟨names, vn, hn, rfl⟩ := strs_of h1
   obtain ⟨t, rfl⟩ := trk_of h2
   obtain ⟨c, rfl, _⟩ := int_of h3
   obtain ⟨inner, vi, hi, hok, rfl, _⟩ := pieces_gen (fun d' hd row => ih d' (by omega)) h4
   exact ⟨.mk k vn names t c vi inner, rfl, .mk hn hi hok⟩
theorem pieces_of {d : Nat} {xs : List DV} (h : Shape Tryz.prog d 22 xs) : ∃ (l : List Pc) (v : DV), SlV 11 (l.map pcRow) v ∧ (∀ p ∈ l, PcOk p) ∧ xs = [v] ∧ l.length ≤ maxLen := pieces_gen (fun d' _ row => pc_of d') h
theorem arg_pieces (x : DV) : argA Tryz.prog 22 [x] = .d x := by simp only [argA, Tryz.underlying22]
end Go.Proofs.YtkljckbaenbjeaaGreatDoor.Ab
namespace Go.Proofs.YtkljckbaenbjeaaGreatDoor.Ab
open Go
set_option linter.unusedSimpArgs false
set_option maxRecDepth 100000
set_option linter.unusedVariables false
set_option maxHeartbeats 4000000
end Go.Proofs.YtkljckbaenbjeaaGreatDoor.Ab
namespace Go.Proofs.YtkljckbaenbjeaaGreatDoor.Ab
open Go
set_option linter.unusedSimpArgs false
set_option maxRecDepth 100000
set_option linter.unusedVariables false
set_option maxHeartbeats 4000000
end Go.Proofs.YtkljckbaenbjeaaGreatDoor.Ab
