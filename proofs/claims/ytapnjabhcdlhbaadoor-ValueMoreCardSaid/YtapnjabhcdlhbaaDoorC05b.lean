/- Layer 5 (value): words, features, shapes. -/
import Derived.Test.YtapnjabhcdlhbaaDoorAbSome
import Derived.Test.YtapnjabhcdlhbaaDoorC04a
import Derived.Test.YtapnjabhcdlhbaaDoorC05a
import Derived.Test.YtapnjabhcdlhbaaDoorC02b
namespace Go.Proofs.YtapnjabhcdlhbaaDoor.Ab
open Go
set_option linter.unusedSimpArgs false
set_option maxRecDepth 100000
set_option linter.unusedVariables false
set_option maxHeartbeats 4000000

theorem is_ok (s k : List UInt8) (hs : s.length ≤ 140737488355328) (hk : k.length ≤ 140737488355328) : Pur F0 15 [S s, S k] [] .no (.ret (B (seq (lower s) (lower k)))) .no := by
  refine pur_code (cf := cfn Tryd.f15) (by kernel_rfl) ?_
  conv => arg 3; reduce
  conv => whnf
  repeat' (first
    | (refine vb_t rfl ?_; conv => whnf)
    | (refine vb_f rfl ?_; conv => whnf)
    | (refine vb_t (by assumption) ?_; conv => whnf)
    | (refine vb_f (by assumption) ?_; conv => whnf)
    | (refine vpur_i (lower_ok s hs) ?_; conv => whnf)
    | (refine vpur_i (lower_ok k hk) ?_; conv => whnf)
    | (refine vb_i (fun h => ?_) (fun h => ?_) <;> conv => whnf)
    | fail)
  exact ⟨rfl, rfl⟩
/-- A word. -/
structure Tok where
  kind : Int
  at_ : Int
  text : List UInt8
  num : List UInt8
def tokRow (t : Tok) : List DV := [.int .i64 t.kind, .int .i64 t.at_, .str t.text, .str t.num]
def tokA (t : Tok) : AV := .agg [I t.kind, I t.at_, S t.text, S t.num]
def toksA (l : List Tok) (v : DV) : Prop := (v = .nilsl ∧ l = []) ∨ v = .sl 4 (l.map tokRow)
def tokOk (t : Tok) : Prop := t.text.length ≤ 1000 ∧ t.num.length ≤ 1000
theorem itok_x {l : List Tok} {n : Int} (h0 : 0 ≤ n) (h : n < l.length) : ∃ t, iget (l.map tokRow) n = some (tokRow t) ∧ t ∈ l := by
  obtain ⟨x, hx⟩ := iget_x (l := l) h0 h
  unfold iget at hx
  rw [if_pos h0] at hx
  refine ⟨x, ?_, List.mem_of_getElem? hx⟩
  unfold iget
  rw [if_pos h0, List.getElem?_map, hx]; rfl
theorem word_ok (l : List Tok) (v : DV) (hv : toksA l v) (hl : ∀ t ∈ l, tokOk t) (at_ : Int) : ∃ t : Tok, Pur F0 7 [.d v, I at_] [] .no (.ret (tokA t)) .no ∧ tokOk t := by
  refine pur_ret (σ := Tok) (g := tokA) (Q := tokOk) (cf := cfn Tryd.f7) (by kernel_rfl) ?_
  conv => arg 3; reduce
  have hz : ∀ k a, tokOk ⟨k, a, [], []⟩ := fun k a => ⟨by simp, by simp⟩
  rcases hv with ⟨rfl, rfl⟩ | rfl
  · conv => whnf
    by_cases h0 : at_ < 0
    · have q : ilt at_ (Int.ofNat 0) = true := by rw [ilt_t]; exact h0
      repeat' (first
        | (refine vb_t rfl ?_; conv => whnf)
        | (refine vb_f rfl ?_; conv => whnf)
        | (refine vb_t (by assumption) ?_; conv => whnf)
        | (refine vb_f (by assumption) ?_; conv => whnf)
        | fail)
      exact ⟨⟨_, _, _, _⟩, rfl, rfl, hz _ _⟩
    · have q : ilt at_ (Int.ofNat 0) = false := by rw [ilt_f]; (first | omega | (simp only [ilt_t, ilt_f, ile_t, ile_f, ieq_t, ieq_f, ofn, List.length_map, Bool.not_eq_true', Bool.not_eq_false'] at *; omega))
      have q2 : ile 0 at_ = true := by rw [ile_t]; omega
      repeat' (first
        | (refine vb_t rfl ?_; conv => whnf)
        | (refine vb_f rfl ?_; conv => whnf)
        | (refine vb_t (by assumption) ?_; conv => whnf)
        | (refine vb_f (by assumption) ?_; conv => whnf)
        | fail)
      exact ⟨⟨_, _, _, _⟩, rfl, rfl, hz _ _⟩
  · conv => whnf
    by_cases h0 : at_ < 0
    · have q : ilt at_ (Int.ofNat 0) = true := by rw [ilt_t]; exact h0
      repeat' (first
        | (refine vb_t rfl ?_; conv => whnf)
        | (refine vb_f rfl ?_; conv => whnf)
        | (refine vb_t (by assumption) ?_; conv => whnf)
        | (refine vb_f (by assumption) ?_; conv => whnf)
        | fail)
      exact ⟨⟨_, _, _, _⟩, rfl, rfl, hz _ _⟩
    · have q : ilt at_ (Int.ofNat 0) = false := by rw [ilt_f]; (first | omega | (simp only [ilt_t, ilt_f, ile_t, ile_f, ieq_t, ieq_f, ofn, List.length_map, Bool.not_eq_true', Bool.not_eq_false'] at *; omega))
      by_cases h1 : (l.length : Int) ≤ at_
      · have q2 : ile ((l.map tokRow).length : Int) at_ = true := by rw [ile_t, List.length_map]; exact h1
        repeat' (first
          | (refine vb_t rfl ?_; conv => whnf)
          | (refine vb_f rfl ?_; conv => whnf)
          | (refine vb_t (by assumption) ?_; conv => whnf)
          | (refine vb_f (by assumption) ?_; conv => whnf)
          | fail)
        exact ⟨⟨_, _, _, _⟩, rfl, rfl, hz _ _⟩
      · have q2 : ile ((l.map tokRow).length : Int) at_ = false := by rw [ile_f, List.length_map]; omega
        obtain ⟨t, ht, hm⟩ := itok_x (l := l) (n := at_) (by omega) (by omega)
        repeat' (first
          | (refine vb_t rfl ?_; conv => whnf)
          | (refine vb_f rfl ?_; conv => whnf)
          | (refine vb_t (by assumption) ?_; conv => whnf)
          | (refine vb_f (by assumption) ?_; conv => whnf)
          | (refine vo_i ht ?_; conv => whnf)
          | fail)
        exact ⟨t, rfl, rfl, hl t hm⟩

theorem feature_ok (t : Tok) (ht : tokOk t) : ∃ b : Bool, Pur F0 9 [tokA t] [] .no (.ret (B b)) .no ∧ True := by
  refine pur_ret (σ := Bool) (g := B) (Q := fun _ => True) (cf := cfn Tryd.f9) (by kernel_rfl) ?_
  obtain ⟨h1, h2⟩ := ht
  conv => arg 3; reduce
  conv => whnf
  repeat' (first
    | (refine vb_t rfl ?_; conv => whnf)
    | (refine vb_f rfl ?_; conv => whnf)
    | (refine vb_t (by assumption) ?_; conv => whnf)
    | (refine vb_f (by assumption) ?_; conv => whnf)
    | (refine vpur_i (lower_ok t.text (by omega)) ?_; conv => whnf)
    | (refine vb_i (fun h => ?_) (fun h => ?_) <;> conv => whnf)
    | fail)
  all_goals exact ⟨_, rfl, rfl, trivial⟩
end Go.Proofs.YtapnjabhcdlhbaaDoor.Ab
