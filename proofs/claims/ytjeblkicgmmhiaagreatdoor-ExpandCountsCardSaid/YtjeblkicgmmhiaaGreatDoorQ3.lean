/- Some texts as one, one behind the other; what is not leaned on is left out. -/
import Derived.Test.YtjeblkicgmmhiaaGreatDoorQ2
import Derived.Test.YtjeblkicgmmhiaaGreatDoorC00q
import Derived.Test.YtjeblkicgmmhiaaGreatDoorQ1
import Derived.Test.YtjeblkicgmmhiaaGreatDoorAbTy
import Derived.Lib.IndexLaws
namespace Go.Proofs.YtjeblkicgmmhiaaGreatDoor.Ab
open Go
set_option linter.unusedSimpArgs false
set_option maxRecDepth 100000
set_option linter.unusedVariables false
set_option maxHeartbeats 4000000
end Go.Proofs.YtjeblkicgmmhiaaGreatDoor.Ab
namespace Go.Proofs.YtjeblkicgmmhiaaGreatDoor.Ab
open Go
set_option linter.unusedSimpArgs false
set_option maxRecDepth 100000
set_option linter.unusedVariables false
set_option maxHeartbeats 4000000
end Go.Proofs.YtjeblkicgmmhiaaGreatDoor.Ab
namespace Go.Proofs.YtjeblkicgmmhiaaGreatDoor.Ab
open Go
set_option linter.unusedSimpArgs false
set_option maxRecDepth 100000
set_option linter.unusedVariables false
set_option maxHeartbeats 4000000
end Go.Proofs.YtjeblkicgmmhiaaGreatDoor.Ab
namespace Go.Proofs.YtjeblkicgmmhiaaGreatDoor.Ab
open Go
set_option linter.unusedSimpArgs false
set_option maxRecDepth 100000
set_option linter.unusedVariables false
set_option maxHeartbeats 4000000
theorem lower_length (s : List UInt8) : (lower s).length = s.length := by unfold lower; simp
theorem rlow_up {c : UInt8} (h1 : 65 ≤ c.toNat) (h2 : c.toNat ≤ 90) : iadd .u8 (isub .u8 (c.toNat : Int) (Int.ofNat 65)) (Int.ofNat 97) = ((low c).toNat : Int) := by
  have e : low c = c + 32 := by unfold low; rw [if_pos ⟨h1, h2⟩]
  have e2 : (c + 32).toNat = c.toNat + 32 := by rw [UInt8.toNat_add]; have : (32 : UInt8).toNat = 32 := rfl; omega
  rw [e, e2]
  unfold iadd isub
  simp only [IntKind.wrap, IntKind.signed, IntKind.bits, Bool.false_and, Bool.false_eq_true, if_false, ofn]
  omega
theorem byteText (c : UInt8) : textOf [[DV.int .u8 (c.toNat : Int)]] = some [c] := by
  have := c.toNat_lt
  show textOf [byteRow c] = some [c]
  exact textOf_bytes [c]
theorem rlower_ok (s : List UInt8) (hs : s.length ≤ 1000000) : Pur F0 118 [S s] [] .no (.ret (S (lower s))) .no := by
  refine pur_code code118_ok ?_
  conv => whnf
  refine vloop_by (σ := { i : Nat // i ≤ s.length }) (fun i => [(0, S s), (2, S []), (3, S (lower (s.take i.1))), (4, I (i.1 : Int))]) (fun _ => []) (fun i => s.length - i.1) ?_ ⟨0, Nat.zero_le _⟩
  rintro ⟨i, hi⟩
  conv => whnf
  by_cases hlt : i < s.length
  · have q1 : ilt (i : Int) (s.length : Int) = true := by rw [ilt_t]; omega
    obtain ⟨c, hc⟩ : ∃ c, s[i]? = some c := ⟨s[i], List.getElem?_eq_getElem hlt⟩
    have hg : iget s (i : Int) = some c := iget_t hc
    have hnx : lower (s.take (i + 1)) = lower (s.take i) ++ [low c] := by
      unfold lower; rw [List.take_add_one, hc, List.map_append]; rfl
    have hll : (lower (s.take i)).length ≤ 1000000 := by rw [lower_length, List.length_take]; omega
    by_cases hu : 65 ≤ c.toNat ∧ c.toNat ≤ 90
    · have q2 : ile (Int.ofNat 65) (c.toNat : Int) = true := by rw [ile_t, ofn]; omega
      have q3 : ile (c.toNat : Int) (Int.ofNat 90) = true := by rw [ile_t, ofn]; omega
      have hb : textOf [[DV.int .u8 (iadd .u8 (isub .u8 (c.toNat : Int) (Int.ofNat 65)) (Int.ofNat 97))]] = some [low c] := by rw [rlow_up hu.1 hu.2]; exact byteText _
      repeat' (first
        | (refine vb_t rfl ?_; conv => whnf)
        | (refine vb_f rfl ?_; conv => whnf)
        | (refine vb_t (by assumption) ?_; conv => whnf)
        | (refine vb_f (by assumption) ?_; conv => whnf)
        | (refine vo_i hg ?_; conv => whnf)
        | (refine vo_i hb ?_; conv => whnf)
        | (refine vb_t (roomS_t (by simp <;> omega)) ?_; conv => whnf)
        | (refine vor_l ?_; conv => whnf)
        | fail)
      exact ⟨⟨i + 1, by omega⟩, by simp only; omega, cons_eq rfl (cons_eq rfl (cons_eq (slot_eq (S_eq hnx.symm)) (cons_eq (slot_eq (I_eq (iadd_one (i := i) (by omega)))) rfl))), rfl, rfl, rfl⟩
    · have hl : low c = c := by unfold low; rw [if_neg hu]
      have hb : textOf [[DV.int .u8 (c.toNat : Int)]] = some [low c] := by rw [hl]; exact byteText _
      by_cases h1 : 65 ≤ c.toNat
      · have q2 : ile (Int.ofNat 65) (c.toNat : Int) = true := by rw [ile_t, ofn]; omega
        have q3 : ile (c.toNat : Int) (Int.ofNat 90) = false := by rw [ile_f, ofn]; omega
        repeat' (first
          | (refine vb_t rfl ?_; conv => whnf)
          | (refine vb_f rfl ?_; conv => whnf)
          | (refine vb_t (by assumption) ?_; conv => whnf)
          | (refine vb_f (by assumption) ?_; conv => whnf)
          | (refine vo_i hg ?_; conv => whnf)
          | (refine vo_i hb ?_; conv => whnf)
          | (refine vb_t (roomS_t (by simp <;> omega)) ?_; conv => whnf)
          | (refine vor_l ?_; conv => whnf)
          | fail)
        exact ⟨⟨i + 1, by omega⟩, by simp only; omega, cons_eq rfl (cons_eq rfl (cons_eq (slot_eq (S_eq hnx.symm)) (cons_eq (slot_eq (I_eq (iadd_one (i := i) (by omega)))) rfl))), rfl, rfl, rfl⟩
      · have q2 : ile (Int.ofNat 65) (c.toNat : Int) = false := by rw [ile_f, ofn]; omega
        repeat' (first
          | (refine vb_t rfl ?_; conv => whnf)
          | (refine vb_f rfl ?_; conv => whnf)
          | (refine vb_t (by assumption) ?_; conv => whnf)
          | (refine vb_f (by assumption) ?_; conv => whnf)
          | (refine vo_i hg ?_; conv => whnf)
          | (refine vo_i hb ?_; conv => whnf)
          | (refine vb_t (roomS_t (by simp <;> omega)) ?_; conv => whnf)
          | (refine vor_l ?_; conv => whnf)
          | fail)
        exact ⟨⟨i + 1, by omega⟩, by simp only; omega, cons_eq rfl (cons_eq rfl (cons_eq (slot_eq (S_eq hnx.symm)) (cons_eq (slot_eq (I_eq (iadd_one (i := i) (by omega)))) rfl))), rfl, rfl, rfl⟩
  · have q1 : ilt (i : Int) (s.length : Int) = false := by rw [ilt_f]; omega
    repeat' (first
      | (refine vb_t rfl ?_; conv => whnf)
      | (refine vb_f rfl ?_; conv => whnf)
      | (refine vb_t (by assumption) ?_; conv => whnf)
      | (refine vb_f (by assumption) ?_; conv => whnf)
      | (refine vor_l ?_; conv => whnf)
      | fail)
    exact ⟨congrArg CR.ret (S_eq (by show lower (s.take i) = lower s; rw [List.take_of_length_le (by omega)])), rfl⟩
theorem ris_ok (s k : List UInt8) (hs : s.length ≤ 1000000) (hk : k.length ≤ 1000000) : Pur F0 83 [S s, S k] [] .no (.ret (B (seq (lower s) (lower k)))) .no := by
  refine pur_code code83_ok ?_
  conv => whnf
  repeat' (first
    | (refine vb_t rfl ?_; conv => whnf)
    | (refine vb_f rfl ?_; conv => whnf)
    | (refine vb_t (by assumption) ?_; conv => whnf)
    | (refine vb_f (by assumption) ?_; conv => whnf)
    | (refine vpur_i (rlower_ok s hs) ?_; conv => whnf)
    | (refine vpur_i (rlower_ok k hk) ?_; conv => whnf)
    | (refine vor_l ?_; conv => whnf)
    | fail)
  exact ⟨rfl, rfl⟩
/-! Lists of texts. -/
def wsRow (s : List UInt8) : List DV := [.str s]
end Go.Proofs.YtjeblkicgmmhiaaGreatDoor.Ab
namespace Go.Proofs.YtjeblkicgmmhiaaGreatDoor.Ab
open Go Go.ChangeShapes Go.WideShapes Go.RowKit
set_option linter.unusedSimpArgs false
set_option maxRecDepth 100000
set_option linter.unusedVariables false
/-- A slice of these rows; it may be nil, if there are none. -/
def SlV (sz : Nat) (rows : List (List DV)) (v : DV) : Prop := (v = .nilsl ∧ rows = []) ∨ v = .sl sz rows
inductive Pc where
  | mk (kind : Int) (vn : DV) (names : List (List UInt8)) (t : Trk) (count : Int) (vi : DV) (inner : List Pc)
  deriving Inhabited
def Pc.kind : Pc → Int
  | .mk k _ _ _ _ _ _ => k
def Pc.names : Pc → List (List UInt8)
  | .mk _ _ n _ _ _ _ => n
def Pc.t : Pc → Trk
  | .mk _ _ _ t _ _ _ => t
def Pc.count : Pc → Int
  | .mk _ _ _ _ c _ _ => c
def Pc.inner : Pc → List Pc
  | .mk _ _ _ _ _ _ i => i
def pcRow : Pc → List DV
  | .mk k vn _ t c vi _ => [.int .i64 k, vn, .int .i64 t.ak, .int .i64 t.an, .int .i64 t.bk, .int .i64 t.bn, .bool t.fit, .int .i64 t.lk, .int .i64 t.ln, .int .i64 c, vi]
inductive PcOk : Pc → Prop
  | mk {k : Int} {vn : DV} {names : List (List UInt8)} {t : Trk} {c : Int} {vi : DV} {inner : List Pc} (hn : SlV 1 (names.map wsRow) vn) (hi : SlV 11 (inner.map pcRow) vi) (h : ∀ q ∈ inner, PcOk q) : PcOk (.mk k vn names t c vi inner)
theorem trk_of {d : Nat} {xs : List DV} (h : Shape Tryz.prog d 28 xs) : ∃ t : Trk, xs = trkRow t := by
  cases d with
  | zero => exact h.elim
  | succ d =>
    rw [Shape, Tryz.underlying28] at h
    obtain ⟨x0, r0, rfl, h0, x1, r1, rfl, h1, x2, r2, rfl, h2, x3, r3, rfl, h3, rfl⟩ := h
    obtain ⟨a, b, rfl⟩ := len_of h0
    obtain ⟨c, e, rfl⟩ := len_of h1
    obtain ⟨f, rfl⟩ := bool_of h2
    obtain ⟨g, i, rfl⟩ := len_of h3
    exact ⟨⟨a, b, c, e, f, g, i⟩, rfl⟩
theorem cellsStr : Tryz.prog.cellsOf 9 = 1 := by kernel_rfl
theorem strRows_of {d : Nat} : ∀ {rows : List (List DV)}, (∀ row ∈ rows, Shape Tryz.prog d 9 row) → ∃ l : List (List UInt8), rows = l.map wsRow
  | [], _ => ⟨[], rfl⟩
  | row :: rows, h => by
    obtain ⟨s, rfl, _⟩ := string_of (h row (List.mem_cons_self ..))
    obtain ⟨l, rfl⟩ := strRows_of fun r hr => h r (List.mem_cons_of_mem _ hr)
    exact ⟨s :: l, rfl⟩
theorem strs_of {d : Nat} {xs : List DV} (h : Shape Tryz.prog d 34 xs) : ∃ (l : List (List UInt8)) (v : DV), SlV 1 (l.map wsRow) v ∧ xs = [v] := by
  cases d with
  | zero => exact h.elim
  | succ d =>
    rw [Shape, Tryz.underlying34] at h
    rcases h with rfl | ⟨rows, rfl, hr, _⟩
    · exact ⟨[], .nilsl, .inl ⟨rfl, rfl⟩, rfl⟩
    · obtain ⟨l, rfl⟩ := strRows_of hr
      rw [cellsStr]
      exact ⟨l, _, .inr rfl, rfl⟩
theorem cellsPc : Tryz.prog.cellsOf 69 = 11 := by kernel_rfl
theorem pcRows_of {d : Nat} (ih : ∀ row, Shape Tryz.prog d 69 row → ∃ p, row = pcRow p ∧ PcOk p) : ∀ {rows : List (List DV)}, (∀ row ∈ rows, Shape Tryz.prog d 69 row) → ∃ l : List Pc, rows = l.map pcRow ∧ ∀ p ∈ l, PcOk p
  | [], _ => ⟨[], rfl, fun p h => by cases h⟩
  | row :: rows, h => by
    obtain ⟨s, rfl, hs⟩ := ih row (h row (List.mem_cons_self ..))
    obtain ⟨l, rfl, hl⟩ := pcRows_of ih fun r hr => h r (List.mem_cons_of_mem _ hr)
    refine ⟨s :: l, rfl, fun p hp => ?_⟩
    rcases List.mem_cons.1 hp with rfl | hp
    · exact hs
    · exact hl p hp
theorem pieces_gen {d : Nat} (ih : ∀ d', d' < d → ∀ row, Shape Tryz.prog d' 69 row → ∃ p, row = pcRow p ∧ PcOk p) {xs : List DV} (h : Shape Tryz.prog d 51 xs) : ∃ (l : List Pc) (v : DV), SlV 11 (l.map pcRow) v ∧ (∀ p ∈ l, PcOk p) ∧ xs = [v] ∧ l.length ≤ maxLen := by
  cases d with
  | zero => exact h.elim
  | succ d =>
    rw [Shape, Tryz.underlying51] at h
    rcases h with rfl | ⟨rows, rfl, hr, hl⟩
    · exact ⟨[], .nilsl, .inl ⟨rfl, rfl⟩, (fun p h => by cases h), rfl, Nat.zero_le _⟩
    · obtain ⟨l, rfl, hok⟩ := pcRows_of (ih d (Nat.lt_succ_self d)) hr
      rw [cellsPc]
      exact ⟨l, _, .inr rfl, hok, rfl, by simpa using hl⟩
theorem pc_of : ∀ (d : Nat) {row : List DV}, Shape Tryz.prog d 69 row → ∃ p, row = pcRow p ∧ PcOk p := by
  intro d
  induction d using Nat.strongRecOn with
  | ind d ih =>
    intro row h
    cases d with
    | zero => exact h.elim
    | succ d =>
      rw [Shape, Tryz.underlying69] at h
      obtain ⟨x0, r0, rfl, h0, x1, r1, rfl, h1, x2, r2, rfl, h2, x3, r3, rfl, h3, x4, r4, rfl, h4, rfl⟩ := h
      obtain ⟨k, rfl, _⟩ := int_of h0
      obtain ⟨names, vn, hn, rfl⟩ := strs_of h1
      obtain ⟨t, rfl⟩ := trk_of h2
      obtain ⟨c, rfl, _⟩ := int_of h3
      obtain ⟨inner, vi, hi, hok, rfl, _⟩ := pieces_gen (fun d' hd row => ih d' (by omega)) h4
      exact ⟨.mk k vn names t c vi inner, rfl, .mk hn hi hok⟩
theorem pieces_of {d : Nat} {xs : List DV} (h : Shape Tryz.prog d 51 xs) : ∃ (l : List Pc) (v : DV), SlV 11 (l.map pcRow) v ∧ (∀ p ∈ l, PcOk p) ∧ xs = [v] ∧ l.length ≤ maxLen := pieces_gen (fun d' _ row => pc_of d') h
theorem arg_pieces (x : DV) : argA Tryz.prog 51 [x] = .d x := by simp only [argA, Tryz.underlying51]
end Go.Proofs.YtjeblkicgmmhiaaGreatDoor.Ab
namespace Go.Proofs.YtjeblkicgmmhiaaGreatDoor.Ab
open Go
set_option linter.unusedSimpArgs false
set_option maxRecDepth 100000
set_option linter.unusedVariables false
set_option maxHeartbeats 4000000
end Go.Proofs.YtjeblkicgmmhiaaGreatDoor.Ab
namespace Go.Proofs.YtjeblkicgmmhiaaGreatDoor.Ab
open Go
set_option linter.unusedSimpArgs false
set_option maxRecDepth 100000
set_option linter.unusedVariables false
set_option maxHeartbeats 4000000
/-- May a text be a name? -/
def nameB (s : List UInt8) : Bool := decide (s ≠ []) && decide (s.length ≤ 64) && decide (0 ∉ s)
theorem index0 (s : List UInt8) : Lib.indexByte s 0 < 0 ↔ 0 ∉ s := by
  induction s with
  | nil => simp [Lib.indexByte]
  | cons b l ih =>
    have h := Lib.indexByte_ge l 0
    unfold Lib.indexByte
    by_cases hb : b = 0
    · subst hb; simp
    · have hb' : (b == 0) = false := by simpa using hb
      rw [if_neg (by rw [hb']; decide)]
      by_cases hl : Lib.indexByte l 0 = -1
      · have hl' : (Lib.indexByte l 0 == -1) = true := by simpa using hl
        rw [if_pos hl']
        have : 0 ∉ l := ih.1 (by omega)
        simp [this, Ne.symm hb]
      · have hl' : (Lib.indexByte l 0 == -1) = false := by simpa using hl
        rw [if_neg (by rw [hl']; decide)]
        have : ¬ (0 ∉ l) := fun h' => hl (by have := ih.2 h'; omega)
        constructor
        · intro h'; omega
        · intro h'; exact (this fun hm => h' (List.mem_cons_of_mem _ hm)).elim
theorem indexByteS_ok (s : List UInt8) (c : UInt8) : Pur F0 154 [S s, .d (.int .u8 c.toNat)] [] .no (.ret (I (Lib.indexByte s c))) .no := by
  refine pur_code (cf := cfn Tryz.f154) (by kernel_rfl) ?_
  conv => arg 3; reduce
  conv => whnf
  repeat' (first
    | (refine vb_t rfl ?_; conv => whnf)
    | (refine vb_f rfl ?_; conv => whnf)
    | (refine vb_t (by assumption) ?_; conv => whnf)
    | (refine vb_f (by assumption) ?_; conv => whnf)
    | (refine vpur_i (indexByte_ok s c) ?_; conv => whnf)
    | (refine vor_l ?_; conv => whnf)
    | fail)
  exact ⟨rfl, rfl⟩
theorem name_ok (s : List UInt8) : Pur F0 129 [S s] [] .no (.ret (B (nameB s))) .no := by
  have h0 := index0 s
  have hi : Pur F0 154 [S s, .d (.int .u8 (Int.ofNat 0))] [] .no (.ret (I (Lib.indexByte s 0))) .no := indexByteS_ok s 0
  refine pur_code code129_ok ?_
  conv => whnf
  repeat' (first
    | (refine vb_t rfl ?_; conv => whnf)
    | (refine vb_f rfl ?_; conv => whnf)
    | (refine vb_t (by assumption) ?_; conv => whnf)
    | (refine vb_f (by assumption) ?_; conv => whnf)
    | (refine vpur_i hi ?_; conv => whnf)
    | (refine vor_l ?_; conv => whnf)
    | (refine vb_i (fun h => ?_) (fun h => ?_) <;> conv => whnf)
    | fail)
  all_goals (refine ⟨retB ?_, rfl⟩; simp_all [nameB, seq_t, seq_f, ile_t, ile_f, ilt_d, lit0])
  all_goals omega
/-- May a text be a line's or an area's name? -/
def customW : List (List UInt8) := [[115, 112, 97, 110], [97, 117, 116, 111], [105, 110, 105, 116, 105, 97, 108], [105, 110, 104, 101, 114, 105, 116], [117, 110, 115, 101, 116], [100, 101, 102, 97, 117, 108, 116], [114, 101, 118, 101, 114, 116]]
def customB (s : List UInt8) : Bool := !anyW s customW && nameB s
theorem custom_ok (s : List UInt8) (hs : s.length ≤ 1000000) : Pur F0 89 [S s] [] .no (.ret (B (customB s))) .no := by
  have e1 : anyW s customW = customW.any fun w => decide (lower s = w) := anyW_id _ (by decide)
  refine pur_code code89_ok ?_
  conv => whnf
  repeat' (first
    | (refine vb_t rfl ?_; conv => whnf)
    | (refine vb_f rfl ?_; conv => whnf)
    | (refine vb_t (by assumption) ?_; conv => whnf)
    | (refine vb_f (by assumption) ?_; conv => whnf)
    | (refine vpur_i (lower_ok s (by omega)) ?_; conv => whnf)
    | (refine vpur_i (name_ok s) ?_; conv => whnf)
    | (refine vor_l ?_; conv => whnf)
    | (refine vb_i (fun h => ?_) (fun h => ?_) <;> conv => whnf)
    | fail)
  all_goals refine ⟨retB ?_, rfl⟩
  all_goals simp only [seq_t, seq_f] at *
  all_goals (unfold customB; rw [e1]; clear e1)
  all_goals generalize lower s = u at *
  all_goals simp_all [customW]
theorem rnought4_ok (s : List UInt8) (hs : s.length ≤ 1000000) : Pur F0 157 [S s] [] .no (.ret (B (decide (0 ∈ s)))) .no := by
  refine pur_code code157_ok ?_
  conv => whnf
  refine vloop_by (σ := { k : Nat // k ≤ s.length ∧ 0 ∉ s.take k }) (fun k => [(0, S s), (2, B false), (3, I (k.1 : Int))]) (fun _ => []) (fun k => s.length - k.1) ?_ ⟨0, Nat.zero_le _, by simp⟩
  rintro ⟨k, hk, hno⟩
  conv => whnf
  by_cases hlt : k < s.length
  · obtain ⟨c, hc⟩ : ∃ c, s[k]? = some c := ⟨s[k], List.getElem?_eq_getElem hlt⟩
    have q : ilt (k : Int) (s.length : Int) = true := by rw [ilt_t]; omega
    have hg : iget s (k : Int) = some c := iget_t hc
    by_cases h0 : c = 0
    · have q2 : ieq (c.toNat : Int) (Int.ofNat 0) = true := by rw [ieq_t, h0]; rfl
      have hm : 0 ∈ s := by rw [← h0]; exact List.mem_of_getElem? hc
      rw [decide_eq_true hm]
      repeat' (first
        | (refine vb_t rfl ?_; conv => whnf)
        | (refine vb_f rfl ?_; conv => whnf)
        | (refine vb_t (by assumption) ?_; conv => whnf)
        | (refine vb_f (by assumption) ?_; conv => whnf)
        | (refine vo_i hg ?_; conv => whnf)
        | (refine vor_l ?_; conv => whnf)
        | fail)
      exact ⟨rfl, rfl⟩
    · have q2 : ieq (c.toNat : Int) (Int.ofNat 0) = false := by
        rw [ieq_f]; intro e; exact h0 (UInt8.toNat_inj.1 (Int.ofNat.inj e))
      repeat' (first
        | (refine vb_t rfl ?_; conv => whnf)
        | (refine vb_f rfl ?_; conv => whnf)
        | (refine vb_t (by assumption) ?_; conv => whnf)
        | (refine vb_f (by assumption) ?_; conv => whnf)
        | (refine vo_i hg ?_; conv => whnf)
        | (refine vor_l ?_; conv => whnf)
        | fail)
      refine ⟨⟨k + 1, by omega, ?_⟩, by simp only; omega, cons_eq rfl (cons_eq rfl (cons_eq (slot_eq (I_eq (iadd_one (i := k) (by omega)))) rfl)), rfl, rfl, rfl⟩
      rw [List.take_add_one, hc]
      simp [hno, Ne.symm h0]
  · have q : ilt (k : Int) (s.length : Int) = false := by rw [ilt_f]; omega
    have hke : k = s.length := by omega
    subst hke
    rw [List.take_length] at hno
    rw [decide_eq_false hno]
    repeat' (first
      | (refine vb_t rfl ?_; conv => whnf)
      | (refine vb_f rfl ?_; conv => whnf)
      | (refine vb_t (by assumption) ?_; conv => whnf)
      | (refine vb_f (by assumption) ?_; conv => whnf)
      | (refine vor_l ?_; conv => whnf)
      | fail)
    exact ⟨rfl, rfl⟩
theorem rname_ok (s : List UInt8) (hs : s.length ≤ 1000000) : Pur F0 130 [S s] [] .no (.ret (B (nameB s))) .no := by
  have hn := rnought4_ok s hs
  refine pur_code code130_ok ?_
  conv => whnf
  repeat' (first
    | (refine vb_t rfl ?_; conv => whnf)
    | (refine vb_f rfl ?_; conv => whnf)
    | (refine vb_t (by assumption) ?_; conv => whnf)
    | (refine vb_f (by assumption) ?_; conv => whnf)
    | (refine vpur_i hn ?_; conv => whnf)
    | (refine vor_l ?_; conv => whnf)
    | (refine vb_i (fun h => ?_) (fun h => ?_) <;> conv => whnf)
    | fail)
  all_goals (refine ⟨retB ?_, rfl⟩; simp_all [nameB, seq_t, seq_f, ile_t, ile_f])
  all_goals omega
theorem rcustom_ok (s : List UInt8) (hs : s.length ≤ 1000000) : Pur F0 90 [S s] [] .no (.ret (B (customB s))) .no := by
  have hn := rname_ok s hs
  refine pur_code code90_ok ?_
  conv => whnf
  repeat' (first
    | (refine vb_t rfl ?_; conv => whnf)
    | (refine vb_f rfl ?_; conv => whnf)
    | (refine vb_t (by assumption) ?_; conv => whnf)
    | (refine vb_f (by assumption) ?_; conv => whnf)
    | (refine vor_l ?_; conv => whnf)
    | fail)
  refine vloop_eq2 (fr' := [(0, S s), (2, B false), (3, .osl 0 0 0 7), (4, I 0)]) (h' := [⟨.mine, 9, .arr false 0 1 (customW.map wsRow)⟩]) rfl rfl ?_
  refine vloop_cnt (α := Unit) 7 (fun k _ => anyW s (customW.take k) = false) (fun k _ => [(4, I (k : Int))]) () rfl rfl ?_
  intro k _ hk hI
  conv => whnf
  by_cases hlt : k < 7
  · obtain ⟨w, hw⟩ : ∃ w, customW[k]? = some w := get_in (by simpa [customW] using hlt)
    have hm := get_map (f := wsRow) hw
    have hg : iget (((customW.map wsRow).take 7).drop 0) (k : Int) = some (wsRow w) := iget_sl (by rw [Nat.zero_add]; exact hm) (by omega)
    have hm2 : (customW.map wsRow)[0 + (k : Int).toNat]? = some (wsRow w) := by rw [Nat.zero_add, Int.toNat_natCast]; exact hm
    have hwl : w.length ≤ 1000000 := by
      have : ∀ w ∈ customW, w.length ≤ 10 := by decide
      have := this w (List.mem_of_getElem? hw)
      omega
    by_cases hq : lower s = lower w
    · have q2 : seq (lower s) (lower w) = true := by rw [seq_t]; exact hq
      have hA : customB s = false := by
        have : anyW s customW = true := by unfold anyW; rw [List.any_eq_true]; exact ⟨w, List.mem_of_getElem? hw, by simpa using hq⟩
        unfold customB; rw [this]; rfl
      rw [hA]
      repeat' (first
        | (refine vb_t rfl ?_; conv => whnf)
        | (refine vb_f rfl ?_; conv => whnf)
        | (refine vb_t (by assumption) ?_; conv => whnf)
        | (refine vb_f (by assumption) ?_; conv => whnf)
        | (refine vb_t (by (first | omega | (simp only [ilt_t, ilt_f, ile_t, ile_f, ieq_t, ieq_f, ofn, List.length_map, Bool.not_eq_true', Bool.not_eq_false'] at *; omega))) ?_; conv => whnf)
        | (refine vo_i hg ?_; conv => whnf)
        | (refine vo_i hm2 ?_; conv => whnf)
        | (refine vpur_i (ris_ok s w hs hwl) ?_; conv => whnf)
        | (refine vor_l ?_; conv => whnf)
        | fail)
      exact ⟨rfl, rfl⟩
    · have q2 : seq (lower s) (lower w) = false := by rw [seq_f]; exact hq
      repeat' (first
        | (refine vb_t rfl ?_; conv => whnf)
        | (refine vb_f rfl ?_; conv => whnf)
        | (refine vb_t (by assumption) ?_; conv => whnf)
        | (refine vb_f (by assumption) ?_; conv => whnf)
        | (refine vb_t (by (first | omega | (simp only [ilt_t, ilt_f, ile_t, ile_f, ieq_t, ieq_f, ofn, List.length_map, Bool.not_eq_true', Bool.not_eq_false'] at *; omega))) ?_; conv => whnf)
        | (refine vo_i hg ?_; conv => whnf)
        | (refine vo_i hm2 ?_; conv => whnf)
        | (refine vpur_i (ris_ok s w hs hwl) ?_; conv => whnf)
        | (refine vor_l ?_; conv => whnf)
        | fail)
      refine ⟨⟨(k + 1, ()), (by omega), ?_⟩, (by simp only; omega), (by repeat' (first | exact rfl | exact slot_eq (I_eq (iadd_one (by omega))) | (refine cons_eq ?_ ?_) | assumption)), rfl, rfl, rfl⟩
      simp only []
      unfold anyW at hI ⊢
      rw [List.take_add_one, hw, List.any_append, hI]
      simpa using hq
  · have hA : customB s = nameB s := by
      rw [List.take_of_length_le (by simp [customW]; omega)] at hI
      unfold customB; rw [hI]; rfl
    rw [hA]
    repeat' (first
      | (refine vb_t rfl ?_; conv => whnf)
      | (refine vb_f rfl ?_; conv => whnf)
      | (refine vb_t (by assumption) ?_; conv => whnf)
      | (refine vb_f (by assumption) ?_; conv => whnf)
      | (refine vb_f (by (first | omega | (simp only [ilt_t, ilt_f, ile_t, ile_f, ieq_t, ieq_f, ofn, List.length_map, Bool.not_eq_true', Bool.not_eq_false'] at *; omega))) ?_; conv => whnf)
      | (refine vpur_i hn ?_; conv => whnf)
      | (refine vor_l ?_; conv => whnf)
      | fail)
    exact ⟨rfl, rfl⟩
end Go.Proofs.YtjeblkicgmmhiaaGreatDoor.Ab
namespace Go.Proofs.YtjeblkicgmmhiaaGreatDoor.Ab
open Go
set_option linter.unusedSimpArgs false
set_option maxRecDepth 100000
set_option linter.unusedVariables false
set_option maxHeartbeats 4000000
def pcA (p : Pc) : AV := .agg ((pcRow p).map .d)
def SmN (l : List (List UInt8)) : Prop := l.length ≤ 1000 ∧ ∀ s ∈ l, s.length ≤ 1000
def trk0 (t : Trk) : Prop := t.ak = 0 ∧ t.an = 0 ∧ t.bk = 0 ∧ t.bn = 0 ∧ t.fit = false ∧ t.lk = 0 ∧ t.ln = 0
def NamesP (l : List (List UInt8)) : Prop := 1 ≤ l.length ∧ l.length ≤ 16 ∧ ∀ s ∈ l, customB s = true
def AutoK (k : Int) : Prop := k = 4 ∨ k = 5
def RepK (k : Int) : Prop := k = 3 ∨ AutoK k
def AloneP (p : Pc) : Prop := (p.kind = 1 ∧ NamesP p.names ∧ p.inner = [] ∧ trk0 p.t ∧ p.count = 0) ∨ (p.kind = 2 ∧ rightT p.t = true ∧ p.names = [] ∧ p.inner = [] ∧ p.count = 0) ∨
  (p.kind = 3 ∧ 1 ≤ p.count ∧ p.count ≤ 10000 ∧ p.names = [] ∧ trk0 p.t) ∨ (AutoK p.kind ∧ p.names = [] ∧ trk0 p.t ∧ p.count = 0)
theorem isAuto_ok (k : Int) : Pur F0 100 [I k] [] .no (.ret (B (pb (AutoK k)))) .no := by
  refine pur_code code100_ok ?_
  conv => whnf
  repeat' (first
    | (refine vb_t rfl ?_; conv => whnf)
    | (refine vb_f rfl ?_; conv => whnf)
    | (refine vb_t (by assumption) ?_; conv => whnf)
    | (refine vb_f (by assumption) ?_; conv => whnf)
    | (refine vor_l ?_; conv => whnf)
    | (refine vb_i (fun h => ?_) (fun h => ?_) <;> conv => whnf)
    | fail)
  all_goals (refine ⟨retB ?_, rfl⟩; rw [Bool.eq_iff_iff, pb_iff]; simp_all [AutoK, ieq_t, ieq_f, lit4, lit5])
theorem isRepeat_ok (k : Int) : Pur F0 99 [I k] [] .no (.ret (B (pb (RepK k)))) .no := by
  have hA := isAuto_ok k
  refine pur_code code99_ok ?_
  conv => whnf
  repeat' (first
    | (refine vb_t rfl ?_; conv => whnf)
    | (refine vb_f rfl ?_; conv => whnf)
    | (refine vb_t (by assumption) ?_; conv => whnf)
    | (refine vb_f (by assumption) ?_; conv => whnf)
    | (refine vpur_i hA ?_; conv => whnf)
    | (refine vor_l ?_; conv => whnf)
    | (refine vb_i (fun h => ?_) (fun h => ?_) <;> conv => whnf)
    | fail)
  all_goals (refine ⟨retB ?_, rfl⟩; rw [Bool.eq_iff_iff, pb_iff]; simp_all [RepK, ieq_t, ieq_f, lit3, pb_iff])
theorem names_all {l : List (List UInt8)} (h : ∀ i s, i < l.length → l[i]? = some s → customB s = true) : ∀ s ∈ l, customB s = true := fun s hs => by
  obtain ⟨i, hi⟩ := List.getElem?_of_mem hs
  exact h i s (List.getElem?_eq_some_iff.1 hi).1 hi
theorem trk0_eq {ak an bk bn lk ln : Int} {fit : Bool} : (ieq ak (Int.ofNat 0) && (ieq an (Int.ofNat 0) && (ieq bk (Int.ofNat 0) && (ieq bn (Int.ofNat 0) && (fit == false && (ieq lk (Int.ofNat 0) && ieq ln (Int.ofNat 0))))))) = pb (trk0 ⟨ak, an, bk, bn, fit, lk, ln⟩) := by
  rw [Bool.eq_iff_iff, pb_iff]
  simp [trk0, ieq_t, lit0]
theorem alone_ok (p : Pc) (hp : PcOk p) (hs : SmN p.names) (hi2 : p.inner.length ≤ 1000000) : Pur F0 140 [pcA p] [] .no (.ret (B (pb (AloneP p)))) .no := by
  cases hp with
  | @mk kd vn names t c vi inner hn hi h0 =>
  simp only [Pc.names, Pc.inner] at hs hi2
  obtain ⟨hs1, hs2⟩ := hs
  obtain ⟨ak, an, bk, bn, fit, lk, ln⟩ := t
  rcases hn with ⟨rfl, hn⟩ | rfl <;> rcases hi with ⟨rfl, hi⟩ | rfl
  · have hn0 : names = [] := List.map_eq_nil_iff.1 hn
    have hi0 : inner = [] := List.map_eq_nil_iff.1 hi
    subst hn0 hi0
    have hz := trk0_eq (ak := ak) (an := an) (bk := bk) (bn := bn) (fit := fit) (lk := lk) (ln := ln)
    have hr := right_ok ⟨ak, an, bk, bn, fit, lk, ln⟩
    have hau := isAuto_ok kd
    by_cases k1 : kd = 1
    · have q1 : ieq kd (Int.ofNat 1) = true := by rw [ieq_t]; exact k1
      by_cases hb : ([] : List (List UInt8)).length < 1 ∨ 16 < ([] : List (List UInt8)).length ∨ 0 < ([] : List Pc).length
      · have hA : pb (AloneP (.mk kd .nilsl ([] : List (List UInt8)) ⟨ak, an, bk, bn, fit, lk, ln⟩ c .nilsl ([] : List Pc))) = false := pb_f (by
          rintro (⟨_, ⟨h1, h2, _⟩, h3, _⟩ | ⟨h1, _⟩ | ⟨h1, _⟩ | ⟨h1, _⟩)
          · have h1' : 1 ≤ ([] : List (List UInt8)).length := h1
            have h2' : ([] : List (List UInt8)).length ≤ 16 := h2
            have h3' : ([] : List Pc) = [] := h3
            have : ([] : List Pc).length = 0 := congrArg List.length h3'
            omega
          · simp only [Pc.kind] at h1; omega
          · simp only [Pc.kind] at h1; omega
          · simp only [Pc.kind, AutoK] at h1; omega)
        rw [hA]
        refine pur_code code140_ok ?_
        conv => whnf
        by_cases b1 : ([] : List (List UInt8)).length < 1
        · repeat' (first
            | (refine vb_t rfl ?_; conv => whnf)
            | (refine vb_f rfl ?_; conv => whnf)
            | (refine vb_t (by assumption) ?_; conv => whnf)
            | (refine vb_f (by assumption) ?_; conv => whnf)
            | (refine vb_t (by (first | omega | (simp only [ilt_t, ilt_f, ile_t, ile_f, ieq_t, ieq_f, ofn, List.length_map, Bool.not_eq_true', Bool.not_eq_false'] at *; omega))) ?_; conv => whnf)
            | (refine vor_l ?_; conv => whnf)
            | fail)
          exact ⟨rfl, rfl⟩
        by_cases b2 : 16 < ([] : List (List UInt8)).length
        · repeat' (first
            | (refine vb_t rfl ?_; conv => whnf)
            | (refine vb_f rfl ?_; conv => whnf)
            | (refine vb_t (by assumption) ?_; conv => whnf)
            | (refine vb_f (by assumption) ?_; conv => whnf)
            | (refine vb_t (by (first | omega | (simp only [ilt_t, ilt_f, ile_t, ile_f, ieq_t, ieq_f, ofn, List.length_map, Bool.not_eq_true', Bool.not_eq_false'] at *; omega))) ?_; conv => whnf)
            | (refine vb_f (by (first | omega | (simp only [ilt_t, ilt_f, ile_t, ile_f, ieq_t, ieq_f, ofn, List.length_map, Bool.not_eq_true', Bool.not_eq_false'] at *; omega))) ?_; conv => whnf)
            | (refine vor_l ?_; conv => whnf)
            | fail)
          exact ⟨rfl, rfl⟩
        have b3 : 0 < ([] : List Pc).length := by omega
        exact absurd b3 (by decide)
      · exact (hb (.inl (by simp))).elim
    · have q1 : ieq kd (Int.ofNat 1) = false := by rw [ieq_f]; exact k1
      by_cases k2 : kd = 2
      · have q2 : ieq kd (Int.ofNat 2) = true := by rw [ieq_t]; exact k2
        have hsum : ieq (iadd .i64 (0 : Int) (0 : Int)) (Int.ofNat 0) = pb (([] : List (List UInt8)) = [] ∧ ([] : List Pc) = []) := by
          rw [iadd64 (by simp; try omega) (by simp; try omega), Bool.eq_iff_iff, ieq_t, pb_iff, ← List.length_eq_zero_iff, ← List.length_eq_zero_iff, lit0]
          try simp only [List.length_map, List.length_nil]
          first | omega | simp
        refine pur_code code140_ok ?_
        conv => whnf
        repeat' (first
          | (refine vb_t rfl ?_; conv => whnf)
          | (refine vb_f rfl ?_; conv => whnf)
          | (refine vb_t (by assumption) ?_; conv => whnf)
          | (refine vb_f (by assumption) ?_; conv => whnf)
          | (refine vpur_i hr ?_; conv => whnf)
          | (rw [hsum]; conv => whnf)
          | (refine vor_l ?_; conv => whnf)
          | (refine vb_i (fun h => ?_) (fun h => ?_) <;> conv => whnf)
          | fail)
        all_goals (refine ⟨retB ?_, rfl⟩; clear hr hau hs1 hs2 h0 hz hsum; rw [Bool.eq_iff_iff, pb_iff]; simp_all [AloneP, AutoK, Pc.kind, Pc.names, Pc.inner, Pc.t, Pc.count, pb_iff, pb_ff, ieq_t, ieq_f, lit0])
      · have q2 : ieq kd (Int.ofNat 2) = false := by rw [ieq_f]; exact k2
        have hnl : ieq (0 : Int) (Int.ofNat 0) = pb (([] : List (List UInt8)) = []) := by
          rw [Bool.eq_iff_iff, ieq_t, pb_iff, ← List.length_eq_zero_iff, lit0]
          simp
        by_cases k3 : kd = 3
        · have q3 : ieq kd (Int.ofNat 3) = true := by rw [ieq_t]; exact k3
          refine pur_code code140_ok ?_
          conv => whnf
          repeat' (first
            | (refine vb_t rfl ?_; conv => whnf)
            | (refine vb_f rfl ?_; conv => whnf)
            | (refine vb_t (by assumption) ?_; conv => whnf)
            | (refine vb_f (by assumption) ?_; conv => whnf)
            | (rw [hnl]; conv => whnf)
            | (rw [hz]; conv => whnf)
            | (refine vor_l ?_; conv => whnf)
            | (refine vb_i (fun h => ?_) (fun h => ?_) <;> conv => whnf)
            | fail)
          all_goals (refine ⟨retB ?_, rfl⟩; clear hr hau hs1 hs2 h0; rw [Bool.eq_iff_iff, pb_iff])
          all_goals (try rw [hz])
          all_goals (clear hz hnl; simp_all [AloneP, AutoK, Pc.kind, Pc.names, Pc.inner, Pc.t, Pc.count, pb_iff, pb_ff, ieq_t, ieq_f, ile_t, ile_f, lit0, lit1])
          all_goals (intros; omega)
        · have q3 : ieq kd (Int.ofNat 3) = false := by rw [ieq_f]; exact k3
          refine pur_code code140_ok ?_
          conv => whnf
          repeat' (first
            | (refine vb_t rfl ?_; conv => whnf)
            | (refine vb_f rfl ?_; conv => whnf)
            | (refine vb_t (by assumption) ?_; conv => whnf)
            | (refine vb_f (by assumption) ?_; conv => whnf)
            | (refine vpur_i hau ?_; conv => whnf)
            | (rw [hnl]; conv => whnf)
            | (rw [hz]; conv => whnf)
            | (refine vor_l ?_; conv => whnf)
            | (refine vb_i (fun h => ?_) (fun h => ?_) <;> conv => whnf)
            | fail)
          all_goals (refine ⟨retB ?_, rfl⟩; clear hr hau hs1 hs2 h0; rw [Bool.eq_iff_iff, pb_iff])
          all_goals (clear hz hnl; simp_all [AloneP, Pc.kind, Pc.names, Pc.inner, Pc.t, Pc.count, pb_iff, pb_ff, ieq_t, ieq_f, lit0])
          all_goals trace_state
  · have hn0 : names = [] := List.map_eq_nil_iff.1 hn
    subst hn0
    have hz := trk0_eq (ak := ak) (an := an) (bk := bk) (bn := bn) (fit := fit) (lk := lk) (ln := ln)
    have hr := right_ok ⟨ak, an, bk, bn, fit, lk, ln⟩
    have hau := isAuto_ok kd
    by_cases k1 : kd = 1
    · have q1 : ieq kd (Int.ofNat 1) = true := by rw [ieq_t]; exact k1
      by_cases hb : ([] : List (List UInt8)).length < 1 ∨ 16 < ([] : List (List UInt8)).length ∨ 0 < inner.length
      · have hA : pb (AloneP (.mk kd .nilsl ([] : List (List UInt8)) ⟨ak, an, bk, bn, fit, lk, ln⟩ c (.sl 11 (inner.map pcRow)) inner)) = false := pb_f (by
          rintro (⟨_, ⟨h1, h2, _⟩, h3, _⟩ | ⟨h1, _⟩ | ⟨h1, _⟩ | ⟨h1, _⟩)
          · have h1' : 1 ≤ ([] : List (List UInt8)).length := h1
            have h2' : ([] : List (List UInt8)).length ≤ 16 := h2
            have h3' : inner = [] := h3
            have : inner.length = 0 := congrArg List.length h3'
            omega
          · simp only [Pc.kind] at h1; omega
          · simp only [Pc.kind] at h1; omega
          · simp only [Pc.kind, AutoK] at h1; omega)
        rw [hA]
        refine pur_code code140_ok ?_
        conv => whnf
        by_cases b1 : ([] : List (List UInt8)).length < 1
        · repeat' (first
            | (refine vb_t rfl ?_; conv => whnf)
            | (refine vb_f rfl ?_; conv => whnf)
            | (refine vb_t (by assumption) ?_; conv => whnf)
            | (refine vb_f (by assumption) ?_; conv => whnf)
            | (refine vb_t (by (first | omega | (simp only [ilt_t, ilt_f, ile_t, ile_f, ieq_t, ieq_f, ofn, List.length_map, Bool.not_eq_true', Bool.not_eq_false'] at *; omega))) ?_; conv => whnf)
            | (refine vor_l ?_; conv => whnf)
            | fail)
          exact ⟨rfl, rfl⟩
        by_cases b2 : 16 < ([] : List (List UInt8)).length
        · repeat' (first
            | (refine vb_t rfl ?_; conv => whnf)
            | (refine vb_f rfl ?_; conv => whnf)
            | (refine vb_t (by assumption) ?_; conv => whnf)
            | (refine vb_f (by assumption) ?_; conv => whnf)
            | (refine vb_t (by (first | omega | (simp only [ilt_t, ilt_f, ile_t, ile_f, ieq_t, ieq_f, ofn, List.length_map, Bool.not_eq_true', Bool.not_eq_false'] at *; omega))) ?_; conv => whnf)
            | (refine vb_f (by (first | omega | (simp only [ilt_t, ilt_f, ile_t, ile_f, ieq_t, ieq_f, ofn, List.length_map, Bool.not_eq_true', Bool.not_eq_false'] at *; omega))) ?_; conv => whnf)
            | (refine vor_l ?_; conv => whnf)
            | fail)
          exact ⟨rfl, rfl⟩
        have b3 : 0 < inner.length := by omega
        repeat' (first
          | (refine vb_t rfl ?_; conv => whnf)
          | (refine vb_f rfl ?_; conv => whnf)
          | (refine vb_t (by assumption) ?_; conv => whnf)
          | (refine vb_f (by assumption) ?_; conv => whnf)
          | (refine vb_t (by (first | omega | (simp only [ilt_t, ilt_f, ile_t, ile_f, ieq_t, ieq_f, ofn, List.length_map, Bool.not_eq_true', Bool.not_eq_false'] at *; omega))) ?_; conv => whnf)
          | (refine vb_f (by (first | omega | (simp only [ilt_t, ilt_f, ile_t, ile_f, ieq_t, ieq_f, ofn, List.length_map, Bool.not_eq_true', Bool.not_eq_false'] at *; omega))) ?_; conv => whnf)
          | (refine vor_l ?_; conv => whnf)
          | fail)
        exact ⟨rfl, rfl⟩
      · exact (hb (.inl (by simp))).elim
    · have q1 : ieq kd (Int.ofNat 1) = false := by rw [ieq_f]; exact k1
      by_cases k2 : kd = 2
      · have q2 : ieq kd (Int.ofNat 2) = true := by rw [ieq_t]; exact k2
        have hsum : ieq (iadd .i64 (0 : Int) ((inner.map pcRow).length : Int)) (Int.ofNat 0) = pb (([] : List (List UInt8)) = [] ∧ inner = []) := by
          rw [iadd64 (by simp; try omega) (by simp; try omega), Bool.eq_iff_iff, ieq_t, pb_iff, ← List.length_eq_zero_iff, ← List.length_eq_zero_iff, lit0]
          try simp only [List.length_map, List.length_nil]
          first | omega | simp
        refine pur_code code140_ok ?_
        conv => whnf
        repeat' (first
          | (refine vb_t rfl ?_; conv => whnf)
          | (refine vb_f rfl ?_; conv => whnf)
          | (refine vb_t (by assumption) ?_; conv => whnf)
          | (refine vb_f (by assumption) ?_; conv => whnf)
          | (refine vpur_i hr ?_; conv => whnf)
          | (rw [hsum]; conv => whnf)
          | (refine vor_l ?_; conv => whnf)
          | (refine vb_i (fun h => ?_) (fun h => ?_) <;> conv => whnf)
          | fail)
        all_goals (refine ⟨retB ?_, rfl⟩; clear hr hau hs1 hs2 h0 hz hsum; rw [Bool.eq_iff_iff, pb_iff]; simp_all [AloneP, AutoK, Pc.kind, Pc.names, Pc.inner, Pc.t, Pc.count, pb_iff, pb_ff, ieq_t, ieq_f, lit0])
      · have q2 : ieq kd (Int.ofNat 2) = false := by rw [ieq_f]; exact k2
        have hnl : ieq (0 : Int) (Int.ofNat 0) = pb (([] : List (List UInt8)) = []) := by
          rw [Bool.eq_iff_iff, ieq_t, pb_iff, ← List.length_eq_zero_iff, lit0]
          simp
        by_cases k3 : kd = 3
        · have q3 : ieq kd (Int.ofNat 3) = true := by rw [ieq_t]; exact k3
          refine pur_code code140_ok ?_
          conv => whnf
          repeat' (first
            | (refine vb_t rfl ?_; conv => whnf)
            | (refine vb_f rfl ?_; conv => whnf)
            | (refine vb_t (by assumption) ?_; conv => whnf)
            | (refine vb_f (by assumption) ?_; conv => whnf)
            | (rw [hnl]; conv => whnf)
            | (rw [hz]; conv => whnf)
            | (refine vor_l ?_; conv => whnf)
            | (refine vb_i (fun h => ?_) (fun h => ?_) <;> conv => whnf)
            | fail)
          all_goals (refine ⟨retB ?_, rfl⟩; clear hr hau hs1 hs2 h0; rw [Bool.eq_iff_iff, pb_iff])
          all_goals (try rw [hz])
          all_goals (clear hz hnl; simp_all [AloneP, AutoK, Pc.kind, Pc.names, Pc.inner, Pc.t, Pc.count, pb_iff, pb_ff, ieq_t, ieq_f, ile_t, ile_f, lit0, lit1])
          all_goals (intros; omega)
        · have q3 : ieq kd (Int.ofNat 3) = false := by rw [ieq_f]; exact k3
          refine pur_code code140_ok ?_
          conv => whnf
          repeat' (first
            | (refine vb_t rfl ?_; conv => whnf)
            | (refine vb_f rfl ?_; conv => whnf)
            | (refine vb_t (by assumption) ?_; conv => whnf)
            | (refine vb_f (by assumption) ?_; conv => whnf)
            | (refine vpur_i hau ?_; conv => whnf)
            | (rw [hnl]; conv => whnf)
            | (rw [hz]; conv => whnf)
            | (refine vor_l ?_; conv => whnf)
            | (refine vb_i (fun h => ?_) (fun h => ?_) <;> conv => whnf)
            | fail)
          all_goals (refine ⟨retB ?_, rfl⟩; clear hr hau hs1 hs2 h0; rw [Bool.eq_iff_iff, pb_iff])
          all_goals (clear hz hnl; simp_all [AloneP, Pc.kind, Pc.names, Pc.inner, Pc.t, Pc.count, pb_iff, pb_ff, ieq_t, ieq_f, lit0])
          all_goals trace_state
  · have hi0 : inner = [] := List.map_eq_nil_iff.1 hi
    subst hi0
    have hz := trk0_eq (ak := ak) (an := an) (bk := bk) (bn := bn) (fit := fit) (lk := lk) (ln := ln)
    have hr := right_ok ⟨ak, an, bk, bn, fit, lk, ln⟩
    have hau := isAuto_ok kd
    by_cases k1 : kd = 1
    · have q1 : ieq kd (Int.ofNat 1) = true := by rw [ieq_t]; exact k1
      by_cases hb : names.length < 1 ∨ 16 < names.length ∨ 0 < ([] : List Pc).length
      · have hA : pb (AloneP (.mk kd (.sl 1 (names.map wsRow)) names ⟨ak, an, bk, bn, fit, lk, ln⟩ c .nilsl ([] : List Pc))) = false := pb_f (by
          rintro (⟨_, ⟨h1, h2, _⟩, h3, _⟩ | ⟨h1, _⟩ | ⟨h1, _⟩ | ⟨h1, _⟩)
          · have h1' : 1 ≤ names.length := h1
            have h2' : names.length ≤ 16 := h2
            have h3' : ([] : List Pc) = [] := h3
            have : ([] : List Pc).length = 0 := congrArg List.length h3'
            omega
          · simp only [Pc.kind] at h1; omega
          · simp only [Pc.kind] at h1; omega
          · simp only [Pc.kind, AutoK] at h1; omega)
        rw [hA]
        refine pur_code code140_ok ?_
        conv => whnf
        by_cases b1 : names.length < 1
        · repeat' (first
            | (refine vb_t rfl ?_; conv => whnf)
            | (refine vb_f rfl ?_; conv => whnf)
            | (refine vb_t (by assumption) ?_; conv => whnf)
            | (refine vb_f (by assumption) ?_; conv => whnf)
            | (refine vb_t (by (first | omega | (simp only [ilt_t, ilt_f, ile_t, ile_f, ieq_t, ieq_f, ofn, List.length_map, Bool.not_eq_true', Bool.not_eq_false'] at *; omega))) ?_; conv => whnf)
            | (refine vor_l ?_; conv => whnf)
            | fail)
          exact ⟨rfl, rfl⟩
        by_cases b2 : 16 < names.length
        · repeat' (first
            | (refine vb_t rfl ?_; conv => whnf)
            | (refine vb_f rfl ?_; conv => whnf)
            | (refine vb_t (by assumption) ?_; conv => whnf)
            | (refine vb_f (by assumption) ?_; conv => whnf)
            | (refine vb_t (by (first | omega | (simp only [ilt_t, ilt_f, ile_t, ile_f, ieq_t, ieq_f, ofn, List.length_map, Bool.not_eq_true', Bool.not_eq_false'] at *; omega))) ?_; conv => whnf)
            | (refine vb_f (by (first | omega | (simp only [ilt_t, ilt_f, ile_t, ile_f, ieq_t, ieq_f, ofn, List.length_map, Bool.not_eq_true', Bool.not_eq_false'] at *; omega))) ?_; conv => whnf)
            | (refine vor_l ?_; conv => whnf)
            | fail)
          exact ⟨rfl, rfl⟩
        have b3 : 0 < ([] : List Pc).length := by omega
        exact absurd b3 (by decide)
      · have b1 : ¬ names.length < 1 := fun h => hb (.inl h)
        have b2 : ¬ 16 < names.length := fun h => hb (.inr (.inl h))
        have b3 : ¬ 0 < ([] : List Pc).length := fun h => hb (.inr (.inr h))
        have hi0 : ([] : List Pc) = [] := List.eq_nil_of_length_eq_zero (by omega)
        refine pur_code code140_ok ?_
        conv => whnf
        repeat' (first
          | (refine vb_t rfl ?_; conv => whnf)
          | (refine vb_f rfl ?_; conv => whnf)
          | (refine vb_t (by assumption) ?_; conv => whnf)
          | (refine vb_f (by assumption) ?_; conv => whnf)
          | (refine vb_t (by (first | omega | (simp only [ilt_t, ilt_f, ile_t, ile_f, ieq_t, ieq_f, ofn, List.length_map, Bool.not_eq_true', Bool.not_eq_false'] at *; omega))) ?_; conv => whnf)
          | (refine vb_f (by (first | omega | (simp only [ilt_t, ilt_f, ile_t, ile_f, ieq_t, ieq_f, ofn, List.length_map, Bool.not_eq_true', Bool.not_eq_false'] at *; omega))) ?_; conv => whnf)
          | (refine vor_l ?_; conv => whnf)
          | fail)
        refine vloop_cnt (α := Unit) names.length (fun k _ => ∀ i s, i < k → names[i]? = some s → customB s = true) (fun k _ => [(28, I (k : Int))]) () (fun i s h => by omega) rfl ?_
        intro k _ hk hI
        conv => whnf
        by_cases hlt : k < names.length
        · obtain ⟨s, hs⟩ := get_in hlt
          have hg := iget_map (f := wsRow) hs
          have hl := lt_len (f := wsRow) hlt
          have hcu := custom_ok s (by have := hs2 s (List.mem_of_getElem? hs); omega)
          cases hcb : customB s with
          | true =>
            rw [hcb] at hcu
            have hx : (!true) = false := rfl
            repeat' (first
              | (refine vb_t rfl ?_; conv => whnf)
              | (refine vb_f rfl ?_; conv => whnf)
              | (refine vb_t (by assumption) ?_; conv => whnf)
              | (refine vb_f (by assumption) ?_; conv => whnf)
              | (refine vb_t (by (first | omega | (simp only [ilt_t, ilt_f, ile_t, ile_f, ieq_t, ieq_f, ofn, List.length_map, Bool.not_eq_true', Bool.not_eq_false'] at *; omega))) ?_; conv => whnf)
              | (refine vo_i hg ?_; conv => whnf)
              | (refine vpur_i hcu ?_; conv => whnf)
              | (refine vor_l ?_; conv => whnf)
              | fail)
            refine ⟨⟨(k + 1, ()), (by omega), ?_⟩, (by simp only; omega), (by repeat' (first | exact rfl | exact slot_eq (I_eq (iadd_one (by omega))) | (refine cons_eq ?_ ?_) | assumption)), rfl, rfl, rfl⟩
            simp only []
            exact upto_succ hI hs hcb
          | false =>
            rw [hcb] at hcu
            have hA : pb (AloneP (.mk kd (.sl 1 (names.map wsRow)) names ⟨ak, an, bk, bn, fit, lk, ln⟩ c .nilsl ([] : List Pc))) = false := pb_f (by
              rintro (⟨_, ⟨_, _, h1⟩, _⟩ | ⟨h1, _⟩ | ⟨h1, _⟩ | ⟨h1, _⟩)
              · have := h1 s (List.mem_of_getElem? hs); rw [hcb] at this; cases this
              · simp only [Pc.kind] at h1; omega
              · simp only [Pc.kind] at h1; omega
              · simp only [Pc.kind, AutoK] at h1; omega)
            rw [hA]
            repeat' (first
              | (refine vb_t rfl ?_; conv => whnf)
              | (refine vb_f rfl ?_; conv => whnf)
              | (refine vb_t (by assumption) ?_; conv => whnf)
              | (refine vb_f (by assumption) ?_; conv => whnf)
              | (refine vb_t (by (first | omega | (simp only [ilt_t, ilt_f, ile_t, ile_f, ieq_t, ieq_f, ofn, List.length_map, Bool.not_eq_true', Bool.not_eq_false'] at *; omega))) ?_; conv => whnf)
              | (refine vo_i hg ?_; conv => whnf)
              | (refine vpur_i hcu ?_; conv => whnf)
              | (refine vor_l ?_; conv => whnf)
              | fail)
            exact ⟨rfl, rfl⟩
        · have hl := nlt_len (f := wsRow) hlt
          have hN : NamesP names := ⟨by omega, by omega, names_all fun i s h h1 => hI i s (by omega) h1⟩
          repeat' (first
            | (refine vb_t rfl ?_; conv => whnf)
            | (refine vb_f rfl ?_; conv => whnf)
            | (refine vb_t (by assumption) ?_; conv => whnf)
            | (refine vb_f (by assumption) ?_; conv => whnf)
            | (refine vb_f (by (first | omega | (simp only [ilt_t, ilt_f, ile_t, ile_f, ieq_t, ieq_f, ofn, List.length_map, Bool.not_eq_true', Bool.not_eq_false'] at *; omega))) ?_; conv => whnf)
            | (rw [hz]; conv => whnf)
            | (refine vor_l ?_; conv => whnf)
            | (refine vb_i (fun h => ?_) (fun h => ?_) <;> conv => whnf)
            | fail)
          all_goals (refine ⟨retB ?_, rfl⟩; clear hr hau hs1 hs2 h0 hl hlt hz hI b1 b2 b3 hb; rw [Bool.eq_iff_iff, pb_iff]; simp_all [AloneP, AutoK, Pc.kind, Pc.names, Pc.inner, Pc.t, Pc.count, pb_iff, pb_ff, ieq_t, ieq_f, lit0])
    · have q1 : ieq kd (Int.ofNat 1) = false := by rw [ieq_f]; exact k1
      by_cases k2 : kd = 2
      · have q2 : ieq kd (Int.ofNat 2) = true := by rw [ieq_t]; exact k2
        have hsum : ieq (iadd .i64 ((names.map wsRow).length : Int) (0 : Int)) (Int.ofNat 0) = pb (names = [] ∧ ([] : List Pc) = []) := by
          rw [iadd64 (by simp; try omega) (by simp; try omega), Bool.eq_iff_iff, ieq_t, pb_iff, ← List.length_eq_zero_iff, ← List.length_eq_zero_iff, lit0]
          try simp only [List.length_map, List.length_nil]
          first | omega | simp
        refine pur_code code140_ok ?_
        conv => whnf
        repeat' (first
          | (refine vb_t rfl ?_; conv => whnf)
          | (refine vb_f rfl ?_; conv => whnf)
          | (refine vb_t (by assumption) ?_; conv => whnf)
          | (refine vb_f (by assumption) ?_; conv => whnf)
          | (refine vpur_i hr ?_; conv => whnf)
          | (rw [hsum]; conv => whnf)
          | (refine vor_l ?_; conv => whnf)
          | (refine vb_i (fun h => ?_) (fun h => ?_) <;> conv => whnf)
          | fail)
        all_goals (refine ⟨retB ?_, rfl⟩; clear hr hau hs1 hs2 h0 hz hsum; rw [Bool.eq_iff_iff, pb_iff]; simp_all [AloneP, AutoK, Pc.kind, Pc.names, Pc.inner, Pc.t, Pc.count, pb_iff, pb_ff, ieq_t, ieq_f, lit0])
      · have q2 : ieq kd (Int.ofNat 2) = false := by rw [ieq_f]; exact k2
        have hnl : ieq ((names.map wsRow).length : Int) (Int.ofNat 0) = pb (names = []) := by
          rw [Bool.eq_iff_iff, ieq_t, pb_iff, ← List.length_eq_zero_iff, lit0]
          simp
        by_cases k3 : kd = 3
        · have q3 : ieq kd (Int.ofNat 3) = true := by rw [ieq_t]; exact k3
          refine pur_code code140_ok ?_
          conv => whnf
          repeat' (first
            | (refine vb_t rfl ?_; conv => whnf)
            | (refine vb_f rfl ?_; conv => whnf)
            | (refine vb_t (by assumption) ?_; conv => whnf)
            | (refine vb_f (by assumption) ?_; conv => whnf)
            | (rw [hnl]; conv => whnf)
            | (rw [hz]; conv => whnf)
            | (refine vor_l ?_; conv => whnf)
            | (refine vb_i (fun h => ?_) (fun h => ?_) <;> conv => whnf)
            | fail)
          all_goals (refine ⟨retB ?_, rfl⟩; clear hr hau hs1 hs2 h0; rw [Bool.eq_iff_iff, pb_iff])
          all_goals (try rw [hz])
          all_goals (clear hz hnl; simp_all [AloneP, AutoK, Pc.kind, Pc.names, Pc.inner, Pc.t, Pc.count, pb_iff, pb_ff, ieq_t, ieq_f, ile_t, ile_f, lit0, lit1])
          all_goals (intros; omega)
        · have q3 : ieq kd (Int.ofNat 3) = false := by rw [ieq_f]; exact k3
          refine pur_code code140_ok ?_
          conv => whnf
          repeat' (first
            | (refine vb_t rfl ?_; conv => whnf)
            | (refine vb_f rfl ?_; conv => whnf)
            | (refine vb_t (by assumption) ?_; conv => whnf)
            | (refine vb_f (by assumption) ?_; conv => whnf)
            | (refine vpur_i hau ?_; conv => whnf)
            | (rw [hnl]; conv => whnf)
            | (rw [hz]; conv => whnf)
            | (refine vor_l ?_; conv => whnf)
            | (refine vb_i (fun h => ?_) (fun h => ?_) <;> conv => whnf)
            | fail)
          all_goals (refine ⟨retB ?_, rfl⟩; clear hr hau hs1 hs2 h0; rw [Bool.eq_iff_iff, pb_iff])
          all_goals (clear hz hnl; simp_all [AloneP, Pc.kind, Pc.names, Pc.inner, Pc.t, Pc.count, pb_iff, pb_ff, ieq_t, ieq_f, lit0])
          all_goals trace_state
  · have hz := trk0_eq (ak := ak) (an := an) (bk := bk) (bn := bn) (fit := fit) (lk := lk) (ln := ln)
    have hr := right_ok ⟨ak, an, bk, bn, fit, lk, ln⟩
    have hau := isAuto_ok kd
    by_cases k1 : kd = 1
    · have q1 : ieq kd (Int.ofNat 1) = true := by rw [ieq_t]; exact k1
      by_cases hb : names.length < 1 ∨ 16 < names.length ∨ 0 < inner.length
      · have hA : pb (AloneP (.mk kd (.sl 1 (names.map wsRow)) names ⟨ak, an, bk, bn, fit, lk, ln⟩ c (.sl 11 (inner.map pcRow)) inner)) = false := pb_f (by
          rintro (⟨_, ⟨h1, h2, _⟩, h3, _⟩ | ⟨h1, _⟩ | ⟨h1, _⟩ | ⟨h1, _⟩)
          · have h1' : 1 ≤ names.length := h1
            have h2' : names.length ≤ 16 := h2
            have h3' : inner = [] := h3
            have : inner.length = 0 := congrArg List.length h3'
            omega
          · simp only [Pc.kind] at h1; omega
          · simp only [Pc.kind] at h1; omega
          · simp only [Pc.kind, AutoK] at h1; omega)
        rw [hA]
        refine pur_code code140_ok ?_
        conv => whnf
        by_cases b1 : names.length < 1
        · repeat' (first
            | (refine vb_t rfl ?_; conv => whnf)
            | (refine vb_f rfl ?_; conv => whnf)
            | (refine vb_t (by assumption) ?_; conv => whnf)
            | (refine vb_f (by assumption) ?_; conv => whnf)
            | (refine vb_t (by (first | omega | (simp only [ilt_t, ilt_f, ile_t, ile_f, ieq_t, ieq_f, ofn, List.length_map, Bool.not_eq_true', Bool.not_eq_false'] at *; omega))) ?_; conv => whnf)
            | (refine vor_l ?_; conv => whnf)
            | fail)
          exact ⟨rfl, rfl⟩
        by_cases b2 : 16 < names.length
        · repeat' (first
            | (refine vb_t rfl ?_; conv => whnf)
            | (refine vb_f rfl ?_; conv => whnf)
            | (refine vb_t (by assumption) ?_; conv => whnf)
            | (refine vb_f (by assumption) ?_; conv => whnf)
            | (refine vb_t (by (first | omega | (simp only [ilt_t, ilt_f, ile_t, ile_f, ieq_t, ieq_f, ofn, List.length_map, Bool.not_eq_true', Bool.not_eq_false'] at *; omega))) ?_; conv => whnf)
            | (refine vb_f (by (first | omega | (simp only [ilt_t, ilt_f, ile_t, ile_f, ieq_t, ieq_f, ofn, List.length_map, Bool.not_eq_true', Bool.not_eq_false'] at *; omega))) ?_; conv => whnf)
            | (refine vor_l ?_; conv => whnf)
            | fail)
          exact ⟨rfl, rfl⟩
        have b3 : 0 < inner.length := by omega
        repeat' (first
          | (refine vb_t rfl ?_; conv => whnf)
          | (refine vb_f rfl ?_; conv => whnf)
          | (refine vb_t (by assumption) ?_; conv => whnf)
          | (refine vb_f (by assumption) ?_; conv => whnf)
          | (refine vb_t (by (first | omega | (simp only [ilt_t, ilt_f, ile_t, ile_f, ieq_t, ieq_f, ofn, List.length_map, Bool.not_eq_true', Bool.not_eq_false'] at *; omega))) ?_; conv => whnf)
          | (refine vb_f (by (first | omega | (simp only [ilt_t, ilt_f, ile_t, ile_f, ieq_t, ieq_f, ofn, List.length_map, Bool.not_eq_true', Bool.not_eq_false'] at *; omega))) ?_; conv => whnf)
          | (refine vor_l ?_; conv => whnf)
          | fail)
        exact ⟨rfl, rfl⟩
      · have b1 : ¬ names.length < 1 := fun h => hb (.inl h)
        have b2 : ¬ 16 < names.length := fun h => hb (.inr (.inl h))
        have b3 : ¬ 0 < inner.length := fun h => hb (.inr (.inr h))
        have hi0 : inner = [] := List.eq_nil_of_length_eq_zero (by omega)
        refine pur_code code140_ok ?_
        conv => whnf
        repeat' (first
          | (refine vb_t rfl ?_; conv => whnf)
          | (refine vb_f rfl ?_; conv => whnf)
          | (refine vb_t (by assumption) ?_; conv => whnf)
          | (refine vb_f (by assumption) ?_; conv => whnf)
          | (refine vb_t (by (first | omega | (simp only [ilt_t, ilt_f, ile_t, ile_f, ieq_t, ieq_f, ofn, List.length_map, Bool.not_eq_true', Bool.not_eq_false'] at *; omega))) ?_; conv => whnf)
          | (refine vb_f (by (first | omega | (simp only [ilt_t, ilt_f, ile_t, ile_f, ieq_t, ieq_f, ofn, List.length_map, Bool.not_eq_true', Bool.not_eq_false'] at *; omega))) ?_; conv => whnf)
          | (refine vor_l ?_; conv => whnf)
          | fail)
        refine vloop_cnt (α := Unit) names.length (fun k _ => ∀ i s, i < k → names[i]? = some s → customB s = true) (fun k _ => [(28, I (k : Int))]) () (fun i s h => by omega) rfl ?_
        intro k _ hk hI
        conv => whnf
        by_cases hlt : k < names.length
        · obtain ⟨s, hs⟩ := get_in hlt
          have hg := iget_map (f := wsRow) hs
          have hl := lt_len (f := wsRow) hlt
          have hcu := custom_ok s (by have := hs2 s (List.mem_of_getElem? hs); omega)
          cases hcb : customB s with
          | true =>
            rw [hcb] at hcu
            have hx : (!true) = false := rfl
            repeat' (first
              | (refine vb_t rfl ?_; conv => whnf)
              | (refine vb_f rfl ?_; conv => whnf)
              | (refine vb_t (by assumption) ?_; conv => whnf)
              | (refine vb_f (by assumption) ?_; conv => whnf)
              | (refine vb_t (by (first | omega | (simp only [ilt_t, ilt_f, ile_t, ile_f, ieq_t, ieq_f, ofn, List.length_map, Bool.not_eq_true', Bool.not_eq_false'] at *; omega))) ?_; conv => whnf)
              | (refine vo_i hg ?_; conv => whnf)
              | (refine vpur_i hcu ?_; conv => whnf)
              | (refine vor_l ?_; conv => whnf)
              | fail)
            refine ⟨⟨(k + 1, ()), (by omega), ?_⟩, (by simp only; omega), (by repeat' (first | exact rfl | exact slot_eq (I_eq (iadd_one (by omega))) | (refine cons_eq ?_ ?_) | assumption)), rfl, rfl, rfl⟩
            simp only []
            exact upto_succ hI hs hcb
          | false =>
            rw [hcb] at hcu
            have hA : pb (AloneP (.mk kd (.sl 1 (names.map wsRow)) names ⟨ak, an, bk, bn, fit, lk, ln⟩ c (.sl 11 (inner.map pcRow)) inner)) = false := pb_f (by
              rintro (⟨_, ⟨_, _, h1⟩, _⟩ | ⟨h1, _⟩ | ⟨h1, _⟩ | ⟨h1, _⟩)
              · have := h1 s (List.mem_of_getElem? hs); rw [hcb] at this; cases this
              · simp only [Pc.kind] at h1; omega
              · simp only [Pc.kind] at h1; omega
              · simp only [Pc.kind, AutoK] at h1; omega)
            rw [hA]
            repeat' (first
              | (refine vb_t rfl ?_; conv => whnf)
              | (refine vb_f rfl ?_; conv => whnf)
              | (refine vb_t (by assumption) ?_; conv => whnf)
              | (refine vb_f (by assumption) ?_; conv => whnf)
              | (refine vb_t (by (first | omega | (simp only [ilt_t, ilt_f, ile_t, ile_f, ieq_t, ieq_f, ofn, List.length_map, Bool.not_eq_true', Bool.not_eq_false'] at *; omega))) ?_; conv => whnf)
              | (refine vo_i hg ?_; conv => whnf)
              | (refine vpur_i hcu ?_; conv => whnf)
              | (refine vor_l ?_; conv => whnf)
              | fail)
            exact ⟨rfl, rfl⟩
        · have hl := nlt_len (f := wsRow) hlt
          have hN : NamesP names := ⟨by omega, by omega, names_all fun i s h h1 => hI i s (by omega) h1⟩
          repeat' (first
            | (refine vb_t rfl ?_; conv => whnf)
            | (refine vb_f rfl ?_; conv => whnf)
            | (refine vb_t (by assumption) ?_; conv => whnf)
            | (refine vb_f (by assumption) ?_; conv => whnf)
            | (refine vb_f (by (first | omega | (simp only [ilt_t, ilt_f, ile_t, ile_f, ieq_t, ieq_f, ofn, List.length_map, Bool.not_eq_true', Bool.not_eq_false'] at *; omega))) ?_; conv => whnf)
            | (rw [hz]; conv => whnf)
            | (refine vor_l ?_; conv => whnf)
            | (refine vb_i (fun h => ?_) (fun h => ?_) <;> conv => whnf)
            | fail)
          all_goals (refine ⟨retB ?_, rfl⟩; clear hr hau hs1 hs2 h0 hl hlt hz hI b1 b2 b3 hb; rw [Bool.eq_iff_iff, pb_iff]; simp_all [AloneP, AutoK, Pc.kind, Pc.names, Pc.inner, Pc.t, Pc.count, pb_iff, pb_ff, ieq_t, ieq_f, lit0])
    · have q1 : ieq kd (Int.ofNat 1) = false := by rw [ieq_f]; exact k1
      by_cases k2 : kd = 2
      · have q2 : ieq kd (Int.ofNat 2) = true := by rw [ieq_t]; exact k2
        have hsum : ieq (iadd .i64 ((names.map wsRow).length : Int) ((inner.map pcRow).length : Int)) (Int.ofNat 0) = pb (names = [] ∧ inner = []) := by
          rw [iadd64 (by simp; try omega) (by simp; try omega), Bool.eq_iff_iff, ieq_t, pb_iff, ← List.length_eq_zero_iff, ← List.length_eq_zero_iff, lit0]
          try simp only [List.length_map, List.length_nil]
          first | omega | simp
        refine pur_code code140_ok ?_
        conv => whnf
        repeat' (first
          | (refine vb_t rfl ?_; conv => whnf)
          | (refine vb_f rfl ?_; conv => whnf)
          | (refine vb_t (by assumption) ?_; conv => whnf)
          | (refine vb_f (by assumption) ?_; conv => whnf)
          | (refine vpur_i hr ?_; conv => whnf)
          | (rw [hsum]; conv => whnf)
          | (refine vor_l ?_; conv => whnf)
          | (refine vb_i (fun h => ?_) (fun h => ?_) <;> conv => whnf)
          | fail)
        all_goals (refine ⟨retB ?_, rfl⟩; clear hr hau hs1 hs2 h0 hz hsum; rw [Bool.eq_iff_iff, pb_iff]; simp_all [AloneP, AutoK, Pc.kind, Pc.names, Pc.inner, Pc.t, Pc.count, pb_iff, pb_ff, ieq_t, ieq_f, lit0])
      · have q2 : ieq kd (Int.ofNat 2) = false := by rw [ieq_f]; exact k2
        have hnl : ieq ((names.map wsRow).length : Int) (Int.ofNat 0) = pb (names = []) := by
          rw [Bool.eq_iff_iff, ieq_t, pb_iff, ← List.length_eq_zero_iff, lit0]
          simp
        by_cases k3 : kd = 3
        · have q3 : ieq kd (Int.ofNat 3) = true := by rw [ieq_t]; exact k3
          refine pur_code code140_ok ?_
          conv => whnf
          repeat' (first
            | (refine vb_t rfl ?_; conv => whnf)
            | (refine vb_f rfl ?_; conv => whnf)
            | (refine vb_t (by assumption) ?_; conv => whnf)
            | (refine vb_f (by assumption) ?_; conv => whnf)
            | (rw [hnl]; conv => whnf)
            | (rw [hz]; conv => whnf)
            | (refine vor_l ?_; conv => whnf)
            | (refine vb_i (fun h => ?_) (fun h => ?_) <;> conv => whnf)
            | fail)
          all_goals (refine ⟨retB ?_, rfl⟩; clear hr hau hs1 hs2 h0; rw [Bool.eq_iff_iff, pb_iff])
          all_goals (try rw [hz])
          all_goals (clear hz hnl; simp_all [AloneP, AutoK, Pc.kind, Pc.names, Pc.inner, Pc.t, Pc.count, pb_iff, pb_ff, ieq_t, ieq_f, ile_t, ile_f, lit0, lit1])
          all_goals (intros; omega)
        · have q3 : ieq kd (Int.ofNat 3) = false := by rw [ieq_f]; exact k3
          refine pur_code code140_ok ?_
          conv => whnf
          repeat' (first
            | (refine vb_t rfl ?_; conv => whnf)
            | (refine vb_f rfl ?_; conv => whnf)
            | (refine vb_t (by assumption) ?_; conv => whnf)
            | (refine vb_f (by assumption) ?_; conv => whnf)
            | (refine vpur_i hau ?_; conv => whnf)
            | (rw [hnl]; conv => whnf)
            | (rw [hz]; conv => whnf)
            | (refine vor_l ?_; conv => whnf)
            | (refine vb_i (fun h => ?_) (fun h => ?_) <;> conv => whnf)
            | fail)
          all_goals (refine ⟨retB ?_, rfl⟩; clear hr hau hs1 hs2 h0; rw [Bool.eq_iff_iff, pb_iff])
          all_goals (clear hz hnl; simp_all [AloneP, Pc.kind, Pc.names, Pc.inner, Pc.t, Pc.count, pb_iff, pb_ff, ieq_t, ieq_f, lit0])
          all_goals trace_state
end Go.Proofs.YtjeblkicgmmhiaaGreatDoor.Ab

