/- Some texts as one, one behind the other; what is not leaned on is left out. -/
import Derived.Test.YtapnjabhcdlhbaaGreatDoorM9C
import Derived.Test.YtapnjabhcdlhbaaGreatDoorM9D
import Derived.Test.YtapnjabhcdlhbaaGreatDoorC00z
import Derived.Test.YtapnjabhcdlhbaaGreatDoorAbTy
namespace Go.Proofs.YtapnjabhcdlhbaaGreatDoor.Ab
open Go
set_option linter.unusedSimpArgs false
set_option maxRecDepth 100000
set_option linter.unusedVariables false
set_option maxHeartbeats 4000000
theorem join_two (a b : List UInt8) (l : List (List UInt8)) (sep : List UInt8) : Lib.join (a :: b :: l) sep = a ++ (sep ++ Lib.join (b :: l) sep) := by
  rw [Lib.join_cons, Lib.join_cons]
  simp [Lib.joinTail]
/-! Words, one behind the other. -/
theorem lex_size {s : List UInt8} {i : Nat} {k n : Int} {r : List UInt8} {L : List Tok} (hs : s.length ≤ 100000) (hb : ∀ c ∈ s, c ≠ 92) (hg : goodL k n 63 = true) (hi : i ≤ s.length) (hd : s.drop i = valText k n ++ r) (hr : free r) (hL : Lexes s (i + (valText k n).length) L) :
    Lexes s i (sizeTok k n (i : Int) :: L) := by
  obtain ⟨c, t, hct, hbl, hc⟩ := valText_head hg
  have hd1 : s.drop i = c :: (t ++ r) := by rw [hd, hct]; rfl
  have hsk := skN_zero hd1 hbl
  have hlen : (valText k n).length + r.length = s.length - i := by have := congrArg List.length hd; simp at this; omega
  have hp : 0 < (valText k n).length := by rw [hct]; simp
  refine ⟨hi, skOk_head hd1 hbl hc, by rw [hsk]; omega, i + (valText k n).length, by omega, ?_, hL⟩
  rw [hsk, Nat.add_zero]
  exact word_size_ok s i k n r hs hi hb hg hd hr
theorem lex_blank {s : List UInt8} {i : Nat} {c : UInt8} {r : List UInt8} {L : List Tok} (hd : s.drop i = c :: r) (hb : blankB c = true) (h : Lexes s (i + 1) L) : Lexes s i L := by
  have hd1 : s.drop (i + 1) = r := by rw [← List.drop_drop, hd]; rfl
  have hsk : i + skN s i = i + 1 + skN s (i + 1) := by
    unfold skN; rw [hd, hd1, List.takeWhile_cons, hb]; simp only [if_true, List.length_cons]; omega
  have hle : i ≤ s.length := by
    have := congrArg List.length hd
    simp at this; omega
  have hok : skOk s (i + 1) → skOk s i := fun h => by unfold skOk at h ⊢; rw [hsk]; exact h
  cases L with
  | nil => exact ⟨hle, hok h.2.1, by rw [hsk]; exact h.2.2⟩
  | cons t L =>
    obtain ⟨_, h2, h3, k, h4, h5, h6⟩ := h
    exact ⟨hle, hok h2, by rw [hsk]; exact h3, k, h4, by rw [hsk]; exact h5, h6⟩
theorem sIndexByte_ok (s : List UInt8) (c : UInt8) : Pur F0 162 [S s, .d (.int .u8 c.toNat)] [] .no (.ret (I (Lib.indexByte s c))) .no := by
  have h := indexByte_ok s c
  refine pur_code code162_ok ?_
  conv => whnf
  repeat' (first
    | (refine vb_t rfl ?_; conv => whnf)
    | (refine vb_f rfl ?_; conv => whnf)
    | (refine vb_t (by assumption) ?_; conv => whnf)
    | (refine vb_f (by assumption) ?_; conv => whnf)
    | (refine vpur_i h ?_; conv => whnf)
    | fail)
  exact ⟨rfl, rfl⟩
theorem word_sign_ok (s : List UInt8) (i : Nat) (c : UInt8) (r : List UInt8) (hs : s.length ≤ 100000) (hi : i ≤ s.length) (hb : ∀ c ∈ s, c ≠ 92) (hd : s.drop i = c :: r) (hc : c = 44 ∨ c = 47) :
    Drp F0 1 120 [.ptr 0 0] [lexO s i] .no (.ret (tokA ⟨7, (i : Int), [c], []⟩)) [lexO s (i + 1)] .no := by
  have hcut := cut_drop (s := s) (i := i) rfl hi
  have hl : r.length + 1 = s.length - i := by have := congrArg List.length hd; simp at this; omega
  have hsc := scan_ok (s.drop i) (by rw [List.length_drop]; omega)
  rw [numP_letter hd (by rcases hc with rfl | rfl <;> decide) (by rcases hc with rfl | rfl <;> decide) (by rcases hc with rfl | rfl <;> decide) (by rcases hc with rfl | rfl <;> decide)] at hsc
  have q1 : ilt (Int.ofNat 0) ((0 : Nat) : Int) = false := by rw [ilt_f]; decide
  have hcs : s[i]? = some c := by rw [← Nat.add_zero i, ← List.getElem?_drop, hd]; rfl
  have hg : iget s (i : Int) = some c := iget_t hcs
  have hbg := begins_ok s i (by omega) (by omega) hb
  have hbf : beginsB s i = false := by
    unfold beginsB
    rw [atP_drop hd, atP_drop hd, if_neg (by rcases hc with rfl | rfl <;> decide)]
    rcases hc with rfl | rfl <;> decide
  rw [hbf] at hbg
  have q2 : ieq (c.toNat : Int) (Int.ofNat 34) = false := ieq_nc (k := 34) 34 rfl (by rcases hc with rfl | rfl <;> decide)
  have q3 : ieq (c.toNat : Int) (Int.ofNat 39) = false := ieq_nc (k := 39) 39 rfl (by rcases hc with rfl | rfl <;> decide)
  have hix := sIndexByte_ok [44, 47, 58, 59, 123, 125, 91, 93, 40, 41] c
  have q4 : ile (Int.ofNat 0) (Lib.indexByte [44, 47, 58, 59, 123, 125, 91, 93, 40, 41] c) = true := by rw [ile_t]; rcases hc with rfl | rfl <;> decide
  have e1 : iadd .i64 (i : Int) (Int.ofNat 1) = ((i + 1 : Nat) : Int) := iadd_one (by omega)
  have hmid : icut s (i : Int) (iadd .i64 (i : Int) (Int.ofNat 1)) = some [c] := icut_mid (T := [c]) rfl e1 hd hi
  have q9 : ilt (Int.ofNat 64) (([c] : List UInt8).length : Int) = false := by rw [ilt_f]; show (1 : Int) ≤ 64; decide
  refine drp_code code120_ok ?_
  conv => whnf
  repeat' (first
    | (refine vb_t rfl ?_; conv => whnf)
    | (refine vb_f rfl ?_; conv => whnf)
    | (refine vb_t (by assumption) ?_; conv => whnf)
    | (refine vb_f (by assumption) ?_; conv => whnf)
    | (refine vo_i hg ?_; conv => whnf)
    | (refine vo_i hcut ?_; conv => whnf)
    | (refine vpur_i hsc ?_; conv => whnf)
    | (refine vdrp_i hbg ?_; conv => whnf)
    | (refine vpur_i hix ?_; conv => whnf)
    | (refine vo_i hmid ?_; conv => whnf)
    | fail)
  exact ⟨rfl, cons_eq (fix_eq (cons_eq rfl (cons_eq (I_eq e1) rfl))) rfl, rfl⟩
theorem lex_sign {s : List UInt8} {i : Nat} {c : UInt8} {r : List UInt8} {L : List Tok} (hs : s.length ≤ 100000) (hb : ∀ c ∈ s, c ≠ 92) (hi : i ≤ s.length) (hd : s.drop i = c :: 32 :: r) (hc : c = 44 ∨ c = 47) (hL : Lexes s (i + 1) L) : Lexes s i (⟨7, (i : Int), [c], []⟩ :: L) := by
  have hbl : blankB c = false := by rcases hc with rfl | rfl <;> decide
  have hsk := skN_zero hd hbl
  have hlen : r.length + 2 = s.length - i := by have := congrArg List.length hd; simp at this; omega
  refine ⟨hi, ?_, by rw [hsk]; omega, i + 1, by omega, ?_, hL⟩
  · unfold skOk
    rw [hsk, Nat.add_zero, hd]
    intro e
    simp at e
  · rw [hsk, Nat.add_zero]
    exact word_sign_ok s i c _ hs hi hb hd hc
/-! Sizes with a blank between them. -/
def szs : List (Int × Int) → Nat → List Tok
  | [], _ => []
  | (k, n) :: P, i => sizeTok k n (i : Int) :: szs P (i + (valText k n).length + 1)
theorem szs_len : ∀ (P : List (Int × Int)) (i : Nat), (szs P i).length = P.length
  | [], _ => rfl
  | (k, n) :: P, i => by rw [szs, List.length_cons, szs_len P, List.length_cons]
theorem szs_get : ∀ (P : List (Int × Int)) (i j : Nat) (k n : Int), P[j]? = some (k, n) → ∃ a : Int, (szs P i)[j]? = some (sizeTok k n a)
  | [], i, j, k, n, h => by simp at h
  | (k', n') :: P, i, 0, k, n, h => by
    simp at h
    obtain ⟨rfl, rfl⟩ := h
    exact ⟨_, rfl⟩
  | (k', n') :: P, i, j + 1, k, n, h => by
    obtain ⟨a, ha⟩ := szs_get P (i + (valText k' n').length + 1) j k n (by simpa using h)
    exact ⟨a, by rw [szs, List.getElem?_cons_succ]; exact ha⟩
def szText (P : List (Int × Int)) : List UInt8 := Lib.join (P.map fun p => valText p.1 p.2) [32]
theorem lex_szs (s : List UInt8) (hs : s.length ≤ 100000) (hb : ∀ c ∈ s, c ≠ 92) : ∀ (P : List (Int × Int)) (i : Nat), P ≠ [] → (∀ p ∈ P, goodL p.1 p.2 63 = true) → i ≤ s.length → s.drop i = szText P → Lexes s i (szs P i)
  | [], i, h, _, _, _ => (h rfl).elim
  | [(k, n)], i, _, hg, hi, hd => by
    have hd' : s.drop i = valText k n ++ [] := by rw [hd, List.append_nil]; exact Lib.join_one _ _
    have hlen : (valText k n).length = s.length - i := by have := congrArg List.length hd'; simp at this; omega
    refine lex_size hs hb (hg (k, n) (List.mem_cons_self ..)) hi hd' (fun c t e => by cases e) ?_
    have : i + (valText k n).length = s.length := by omega
    rw [this]; exact lexes_end s
  | (k, n) :: q :: P, i, _, hg, hi, hd => by
    have hd' : s.drop i = valText k n ++ (32 :: szText (q :: P)) := by rw [hd]; exact join_two _ _ _ _
    have hd2 := drop_add' hd'
    have hlen : (valText k n).length + ((szText (q :: P)).length + 1) = s.length - i := by have := congrArg List.length hd'; simp at this; omega
    have hd3 : s.drop (i + (valText k n).length + 1) = szText (q :: P) := by rw [← List.drop_drop, hd2]; rfl
    refine lex_size hs hb (hg (k, n) (List.mem_cons_self ..)) hi hd' (fun c t e => by cases e; decide) (lex_blank hd2 rfl ?_)
    exact lex_szs s hs hb (q :: P) _ (by simp) (fun p hp => hg p (List.mem_cons_of_mem _ hp)) (by omega) hd3
theorem szText_92 : ∀ (P : List (Int × Int)), (∀ p ∈ P, goodL p.1 p.2 63 = true) → ∀ c ∈ szText P, c ≠ 92
  | [], _, c, h => by cases h
  | [(k, n)], hg, c, h => by
    have e : szText [(k, n)] = valText k n := Lib.join_one _ _
    rw [e] at h
    exact valText_92 (hg (k, n) (List.mem_cons_self ..)) c h
  | (k, n) :: q :: P, hg, c, h => by
    have e : szText ((k, n) :: q :: P) = valText k n ++ ([32] ++ szText (q :: P)) := join_two _ _ _ _
    rw [e] at h
    rcases List.mem_append.1 h with h | h
    · exact valText_92 (hg (k, n) (List.mem_cons_self ..)) c h
    · rcases List.mem_append.1 h with h | h
      · rw [List.mem_singleton.1 h]; decide
      · exact szText_92 (q :: P) (fun p hp => hg p (List.mem_cons_of_mem _ hp)) c h
theorem szText_len (P : List (Int × Int)) (h : P.length ≤ 10) : (szText P).length ≤ 10000 := by
  have h1 := join_le [32] 210 (P.map fun p => valText p.1 p.2) (fun x hx => by
    obtain ⟨p, _, rfl⟩ := List.mem_map.1 hx
    exact valText_len _ _)
  unfold szText
  rw [List.length_map] at h1
  have : P.length * (210 + ([32] : List UInt8).length) ≤ 10 * 211 := Nat.mul_le_mul h (Nat.le_refl _)
  omega
/-! Read again. -/
theorem wordS_app {L : List Tok} {e : Tok} {j : Nat} {t : Tok} (h : L[j]? = some t) : wordS (L ++ [e]) (j : Int) = t := by
  have hl := (List.getElem?_eq_some_iff.1 h).1
  unfold wordS
  rw [if_pos (by omega), Int.toNat_natCast, List.getElem?_append_left hl, h]; rfl
theorem wordS_last {L : List Tok} {e : Tok} : wordS (L ++ [e]) (L.length : Int) = e := by
  unfold wordS
  rw [if_pos (by omega), Int.toNat_natCast, List.getElem?_append_right (Nat.le_refl _), Nat.sub_self]; rfl
theorem readS_end (s : List UInt8) (a allow : Int) : readS (endT s) a allow = (0, 0, a, 50) := by
  unfold readS
  have h1 : featB (endT s) = false := rfl
  have h2 : (shapeS (endT s)).1 = 0 := rfl
  rw [h1, if_neg (by decide), if_pos (.inl h2)]
theorem some_szs (P : List (Int × Int)) (i : Nat) (s : List UInt8) (allow : Int) (most : Nat) (hP : P ≠ []) (hm : P.length ≤ most) (hmm : most ≤ 100) (hg : ∀ p ∈ P, goodL p.1 p.2 63 = true ∧ goodL p.1 p.2 allow = true) :
    someS (rdS (szs P i ++ [endT s]) allow) most [] 0 = (P, (P.length : Int), 0) := by
  have hrd : ∀ j, j < P.length → ∃ k n, P[j]? = some (k, n) ∧ rdS (szs P i ++ [endT s]) allow (j : Int) = (k, n, ((j + 1 : Nat) : Int), 0) := fun j hj => by
    obtain ⟨⟨k, n⟩, h⟩ : ∃ p, P[j]? = some p := ⟨P[j], List.getElem?_eq_getElem hj⟩
    obtain ⟨a, ha⟩ := szs_get P i j k n h
    obtain ⟨g1, g2⟩ := hg (k, n) (List.mem_of_getElem? h)
    refine ⟨k, n, h, ?_⟩
    unfold rdS
    rw [wordS_app ha, (readS_size (i := a) (a := (j : Int)) (allow := allow) g1).1 g2]
    congr 3
    rw [iadd64 (by omega) (by omega)]; omega
  have hend : rdS (szs P i ++ [endT s]) allow (P.length : Int) = (0, 0, (P.length : Int), 50) := by
    unfold rdS
    have : (P.length : Int) = ((szs P i).length : Int) := by rw [szs_len]
    rw [this, wordS_last, readS_end]
  have key : ∀ (f j : Nat), j + f = most → j ≤ P.length → someS (rdS (szs P i ++ [endT s]) allow) f (P.take j) (j : Int) = (P, (P.length : Int), 0) := by
    intro f
    induction f with
    | zero =>
      intro j h1 h2
      have : j = P.length := by omega
      subst this
      rw [List.take_length]; rfl
    | succ f ih =>
      intro j h1 h2
      rw [someS]
      by_cases hj : j < P.length
      · obtain ⟨k, n, h3, h4⟩ := hrd j hj
        rw [h4, if_neg (fun h => by have h6 : (0 : Int) = 50 := h.1; omega), if_neg (fun h => h rfl)]
        have h5 := ih (j + 1) (by omega) hj
        rw [List.take_add_one, h3] at h5
        exact h5
      · have : j = P.length := by omega
        subst this
        rw [hend, List.take_length, if_pos ⟨rfl, hP⟩]
  have := key most 0 (by omega) (Nat.zero_le _)
  exact this
end Go.Proofs.YtapnjabhcdlhbaaGreatDoor.Ab
namespace Go.Proofs.YtapnjabhcdlhbaaGreatDoor.Ab
open Go
set_option linter.unusedSimpArgs false
set_option maxRecDepth 100000
set_option linter.unusedVariables false
set_option maxHeartbeats 4000000
/-! Boxes, one behind the other, with what stands behind each. -/
abbrev It := Bx × Option UInt8
def lineIt (last : Option UInt8) : List Bx → List It
  | [] => []
  | [b] => [(b, last)]
  | b :: c :: t => (b, some 44) :: lineIt last (c :: t)
def items : List (List Bx) → List It
  | [] => []
  | [l] => lineIt none l
  | l :: m :: t => lineIt (some 47) l ++ items (m :: t)
def sepT : Option UInt8 → List UInt8
  | none => []
  | some c => if c = 44 then [44, 32] else [32, 47, 32]
def itText : List It → List UInt8
  | [] => []
  | (b, s) :: R => boxText b ++ (sepT s ++ itText R)
theorem itText_app : ∀ a b : List It, itText (a ++ b) = itText a ++ itText b
  | [], b => rfl
  | (x, s) :: a, b => by simp only [List.cons_append, itText, itText_app a b, List.append_assoc]
theorem lineIt_text (last : Option UInt8) : ∀ l : List Bx, l ≠ [] → itText (lineIt last l) = lineText l ++ sepT last
  | [], h => (h rfl).elim
  | [b], _ => by
    show boxText b ++ (sepT last ++ []) = _
    unfold lineText
    rw [List.append_nil]
    simp only [List.map_cons, List.map_nil, Lib.join_one]
  | b :: c :: t, _ => by
    have ih := lineIt_text last (c :: t) (by simp)
    show boxText b ++ (sepT (some 44) ++ itText (lineIt last (c :: t))) = _
    rw [ih]
    unfold lineText
    have ej := join_two (boxText b) (boxText c) (t.map boxText) [44, 32]
    simp only [List.map_cons, ej]
    simp [sepT]
theorem items_text : ∀ w : List (List Bx), (∀ l ∈ w, l ≠ []) → itText (items w) = Lib.join (w.map lineText) [32, 47, 32]
  | [], _ => rfl
  | [l], h => by
    show itText (lineIt none l) = _
    rw [lineIt_text none l (h l (List.mem_cons_self ..))]
    simp [Lib.join_one, sepT]
  | l :: m :: t, h => by
    have ih := items_text (m :: t) (fun x hx => h x (List.mem_cons_of_mem _ hx))
    show itText (lineIt (some 47) l ++ items (m :: t)) = _
    rw [itText_app, lineIt_text _ l (h l (List.mem_cons_self ..)), ih]
    have ej := join_two (lineText l) (lineText m) (t.map lineText) [32, 47, 32]
    simp only [List.map_cons, ej]
    simp [sepT]
def valid : List It → Prop
  | [] => False
  | [(_, s)] => s = none
  | (_, s) :: q :: R => (s = some 44 ∨ s = some 47) ∧ valid (q :: R)
theorem valid_lineNone : ∀ l : List Bx, l ≠ [] → valid (lineIt none l)
  | [], h => (h rfl).elim
  | [b], _ => rfl
  | [b, c], _ => ⟨.inl rfl, rfl⟩
  | b :: c :: d :: t, _ => ⟨.inl rfl, valid_lineNone (c :: d :: t) (by simp)⟩
theorem valid_app : ∀ (l : List Bx) (R : List It), l ≠ [] → valid R → valid (lineIt (some 47) l ++ R)
  | [], R, h, _ => (h rfl).elim
  | [b], [], _, hR => hR.elim
  | [b], q :: R, _, hR => ⟨.inr rfl, hR⟩
  | [b, c], R, _, hR => ⟨.inl rfl, valid_app [c] R (by simp) hR⟩
  | b :: c :: d :: t, R, _, hR => ⟨.inl rfl, valid_app (c :: d :: t) R (by simp) hR⟩
theorem valid_items : ∀ w : List (List Bx), w ≠ [] → (∀ l ∈ w, l ≠ []) → valid (items w)
  | [], h, _ => (h rfl).elim
  | [l], _, h => valid_lineNone l (h l (List.mem_cons_self ..))
  | l :: m :: t, _, h => valid_app l _ (h l (List.mem_cons_self ..)) (valid_items (m :: t) (by simp) fun x hx => h x (List.mem_cons_of_mem _ hx))
/-- The lines of boxes that are read. -/
def grp : List (List Bx) → List Bx → List It → List (List Bx)
  | out, _, [] => out
  | out, word, (b, none) :: _ => out ++ [word ++ [b]]
  | out, word, (b, some c) :: R => if c = 44 then grp out (word ++ [b]) R else grp (out ++ [word ++ [b]]) [] R
theorem grp_lineNone (out : List (List Bx)) : ∀ (l word : List Bx), l ≠ [] → grp out word (lineIt none l) = out ++ [word ++ l]
  | [], word, h => (h rfl).elim
  | [b], word, _ => rfl
  | b :: c :: t, word, _ => by
    have ih := grp_lineNone out (c :: t) (word ++ [b]) (by simp)
    show grp out (word ++ [b]) (lineIt none (c :: t)) = _
    rw [ih]; simp
theorem grp_line (R : List It) : ∀ (l word : List Bx) (out : List (List Bx)), l ≠ [] → grp out word (lineIt (some 47) l ++ R) = grp (out ++ [word ++ l]) [] R
  | [], word, out, h => (h rfl).elim
  | [b], word, out, _ => rfl
  | b :: c :: t, word, out, _ => by
    have ih := grp_line R (c :: t) (word ++ [b]) out (by simp)
    show grp out (word ++ [b]) (lineIt (some 47) (c :: t) ++ R) = _
    rw [ih]; simp
theorem grp_items : ∀ (w : List (List Bx)) (out : List (List Bx)), w ≠ [] → (∀ l ∈ w, l ≠ []) → grp out [] (items w) = out ++ w
  | [], out, h, _ => (h rfl).elim
  | [l], out, _, h => grp_lineNone out l [] (h l (List.mem_cons_self ..))
  | l :: m :: t, out, _, h => by
    have ih := grp_items (m :: t) (out ++ [l]) (by simp) fun x hx => h x (List.mem_cons_of_mem _ hx)
    show grp out [] (lineIt (some 47) l ++ items (m :: t)) = _
    rw [grp_line _ l [] out (h l (List.mem_cons_self ..))]
    show grp (out ++ [[] ++ l]) [] (items (m :: t)) = _
    rw [List.nil_append, ih]; simp
/-- How many boxes there are. -/
def boxN : List (List Bx) → Nat
  | [] => 0
  | l :: t => l.length + boxN t
theorem lineIt_len (last : Option UInt8) : ∀ l : List Bx, (lineIt last l).length = l.length
  | [] => rfl
  | [b] => rfl
  | b :: c :: t => by
    have := lineIt_len last (c :: t)
    show (lineIt last (c :: t)).length + 1 = _
    rw [this]; rfl
theorem items_len : ∀ w : List (List Bx), (items w).length = boxN w
  | [] => rfl
  | [l] => by show (lineIt none l).length = _; rw [lineIt_len]; rfl
  | l :: m :: t => by
    have ih := items_len (m :: t)
    show (lineIt (some 47) l ++ items (m :: t)).length = _
    rw [List.length_append, lineIt_len, ih]; rfl
theorem lineIt_mem (last : Option UInt8) : ∀ (l : List Bx), ∀ x ∈ lineIt last l, x.1 ∈ l
  | [], x, h => by cases h
  | [b], x, h => by rw [List.mem_singleton.1 h]; exact List.mem_cons_self ..
  | b :: c :: t, x, h => by
    rcases List.mem_cons.1 h with h | h
    · rw [h]; exact List.mem_cons_self ..
    · exact List.mem_cons_of_mem _ (lineIt_mem last (c :: t) x h)
theorem items_mem : ∀ (w : List (List Bx)), ∀ x ∈ items w, ∃ l ∈ w, x.1 ∈ l
  | [], x, h => by cases h
  | [l], x, h => ⟨l, List.mem_cons_self .., lineIt_mem _ l x h⟩
  | l :: m :: t, x, h => by
    rcases List.mem_append.1 h with h | h
    · exact ⟨l, List.mem_cons_self .., lineIt_mem _ l x h⟩
    · obtain ⟨y, h1, h2⟩ := items_mem (m :: t) x h
      exact ⟨y, List.mem_cons_of_mem _ h1, h2⟩
/-! The words. -/
def itToks : List It → Nat → List Tok
  | [], _ => []
  | (b, s) :: R, i =>
    sizeTok 2 b.1 (i : Int) :: sizeTok 2 b.2 ((i + (pxText b.1).length + 1 : Nat) : Int) ::
      (match s with
        | none => []
        | some c => if c = 44 then ⟨7, ((i + (pxText b.1).length + 1 + (pxText b.2).length : Nat) : Int), [44], []⟩ :: itToks R (i + (pxText b.1).length + 1 + (pxText b.2).length + 2)
          else ⟨7, ((i + (pxText b.1).length + 1 + (pxText b.2).length + 1 : Nat) : Int), [47], []⟩ :: itToks R (i + (pxText b.1).length + 1 + (pxText b.2).length + 3))
def itsOk (R : List It) : Prop := ∀ x ∈ R, sideOk x.1.1 = true ∧ sideOk x.1.2 = true
theorem side_good {n : Int} (h : sideOk n = true) : goodL 2 n 63 = true ∧ goodL 2 n 0 = true ∧ valText 2 n = pxText n := by
  have hw : ∀ a, within n a 68719476736 = true := fun a => by
    unfold sideOk at h
    simp only [Bool.and_eq_true, decide_eq_true_eq] at h
    unfold within; rw [if_neg (by omega), ile_d, decide_eq_true_eq]; exact h.2
  have hg : ∀ a, goodL 2 n a = true := fun a => by unfold goodL; rw [if_pos rfl]; exact hw a
  exact ⟨hg 63, hg 0, valText_px h⟩
theorem lex_items (s : List UInt8) (hs : s.length ≤ 100000) (hb : ∀ c ∈ s, c ≠ 92) : ∀ (R : List It) (i : Nat), valid R → itsOk R → i ≤ s.length → s.drop i = itText R → Lexes s i (itToks R i)
  | [], i, h, _, _, _ => h.elim
  | (b, none) :: R, i, hv, hok, hi, hd => by
    have hR : R = [] := by
      cases R with
      | nil => rfl
      | cons q R => rcases hv.1 with h | h <;> cases h
    subst hR
    obtain ⟨h1, h2⟩ := hok (b, none) (List.mem_cons_self ..)
    obtain ⟨g1, _, t1⟩ := side_good h1
    obtain ⟨g2, _, t2⟩ := side_good h2
    have hd' : s.drop i = valText 2 b.1 ++ (32 :: (valText 2 b.2 ++ [])) := by rw [hd, t1, t2]; simp [itText, boxText, sepT]
    have hd2 := drop_add' hd'
    have hd3 : s.drop (i + (valText 2 b.1).length + 1) = valText 2 b.2 ++ [] := by rw [← List.drop_drop, hd2]; rfl
    have hl := congrArg List.length hd'
    simp at hl
    show Lexes s i [sizeTok 2 b.1 (i : Int), sizeTok 2 b.2 ((i + (pxText b.1).length + 1 : Nat) : Int)]
    rw [← t1]
    refine lex_size hs hb g1 hi hd' (fun c t e => by cases e; decide) (lex_blank hd2 rfl (lex_size hs hb g2 (by omega) hd3 (fun c t e => by cases e) ?_))
    have : i + (valText 2 b.1).length + 1 + (valText 2 b.2).length = s.length := by omega
    rw [this]; exact lexes_end s
  | (b, some c) :: R, i, hv, hok, hi, hd => by
    have hvR : (c = 44 ∨ c = 47) ∧ valid R := by
      cases R with
      | nil => cases hv
      | cons q R => exact ⟨by rcases hv.1 with h | h; exact .inl (Option.some.inj h); exact .inr (Option.some.inj h), hv.2⟩
    have ih := lex_items s hs hb R
    have hokR : itsOk R := fun x hx => hok x (List.mem_cons_of_mem _ hx)
    obtain ⟨h1, h2⟩ := hok (b, some c) (List.mem_cons_self ..)
    obtain ⟨g1, _, t1⟩ := side_good h1
    obtain ⟨g2, _, t2⟩ := side_good h2
    have hd' : s.drop i = valText 2 b.1 ++ (32 :: (valText 2 b.2 ++ (sepT (some c) ++ itText R))) := by rw [hd, t1, t2]; simp [itText, boxText]
    have hd2 := drop_add' hd'
    have hd3 : s.drop (i + (valText 2 b.1).length + 1) = valText 2 b.2 ++ (sepT (some c) ++ itText R) := by rw [← List.drop_drop, hd2]; rfl
    have hd4 := drop_add' hd3
    have hl := congrArg List.length hd'
    simp only [List.length_drop, List.length_append, List.length_cons] at hl
    rcases hvR.1 with rfl | rfl
    · have hl2 : (sepT (some 44)).length = 2 := rfl
      have hd5 : s.drop (i + (valText 2 b.1).length + 1 + (valText 2 b.2).length) = 44 :: 32 :: itText R := hd4
      have hd6 : s.drop (i + (valText 2 b.1).length + 1 + (valText 2 b.2).length + 1) = 32 :: itText R := by rw [← List.drop_drop, hd5]; rfl
      have hd7 : s.drop (i + (valText 2 b.1).length + 1 + (valText 2 b.2).length + 2) = itText R := by rw [← List.drop_drop, hd5]; rfl
      show Lexes s i (sizeTok 2 b.1 (i : Int) :: sizeTok 2 b.2 ((i + (pxText b.1).length + 1 : Nat) : Int) :: ⟨7, ((i + (pxText b.1).length + 1 + (pxText b.2).length : Nat) : Int), [44], []⟩ :: itToks R (i + (pxText b.1).length + 1 + (pxText b.2).length + 2))
      rw [← t1, ← t2]
      exact lex_size hs hb g1 hi hd' (fun c t e => by cases e; decide) (lex_blank hd2 rfl (lex_size hs hb g2 (by omega) hd3 (fun c t e => by cases e; decide) (lex_sign hs hb (by omega) hd5 (.inl rfl) (lex_blank hd6 rfl (ih _ hvR.2 hokR (by omega) hd7)))))
    · have hl2 : (sepT (some 47)).length = 3 := rfl
      have hd5 : s.drop (i + (valText 2 b.1).length + 1 + (valText 2 b.2).length) = 32 :: 47 :: 32 :: itText R := hd4
      have hd6 : s.drop (i + (valText 2 b.1).length + 1 + (valText 2 b.2).length + 1) = 47 :: 32 :: itText R := by rw [← List.drop_drop, hd5]; rfl
      have hd7 : s.drop (i + (valText 2 b.1).length + 1 + (valText 2 b.2).length + 1 + 1) = 32 :: itText R := by rw [← List.drop_drop, hd6]; rfl
      have hd8 : s.drop (i + (valText 2 b.1).length + 1 + (valText 2 b.2).length + 3) = itText R := by rw [← List.drop_drop, hd5]; rfl
      show Lexes s i (sizeTok 2 b.1 (i : Int) :: sizeTok 2 b.2 ((i + (pxText b.1).length + 1 : Nat) : Int) :: ⟨7, ((i + (pxText b.1).length + 1 + (pxText b.2).length + 1 : Nat) : Int), [47], []⟩ :: itToks R (i + (pxText b.1).length + 1 + (pxText b.2).length + 3))
      rw [← t1, ← t2]
      exact lex_size hs hb g1 hi hd' (fun c t e => by cases e; decide) (lex_blank hd2 rfl (lex_size hs hb g2 (by omega) hd3 (fun c t e => by cases e; decide) (lex_blank hd5 rfl (lex_sign hs hb (by omega) hd6 (.inr rfl) (lex_blank hd7 rfl (ih _ hvR.2 hokR (by omega) hd8))))))
/-- The words of a box. -/
theorem itToks_get : ∀ (R : List It) (i j : Nat) (b : Bx) (sp : Option UInt8), valid R → R[j]? = some (b, sp) →
    (∃ a : Int, (itToks R i)[3 * j]? = some (sizeTok 2 b.1 a)) ∧ (∃ a : Int, (itToks R i)[3 * j + 1]? = some (sizeTok 2 b.2 a)) ∧ (sp = none → (itToks R i).length = 3 * j + 2) ∧ (∀ c, sp = some c → ∃ a : Int, (itToks R i)[3 * j + 2]? = some ⟨7, a, [c], []⟩)
  | [], i, j, b, sp, hv, h => hv.elim
  | (b', none) :: R, i, j, b, sp, hv, h => by
    have hR : R = [] := by
      cases R with
      | nil => rfl
      | cons q R => rcases hv.1 with h | h <;> cases h
    subst hR
    cases j with
    | zero =>
      simp at h
      obtain ⟨rfl, rfl⟩ := h
      exact ⟨⟨_, rfl⟩, ⟨_, rfl⟩, fun _ => rfl, fun c h => by cases h⟩
    | succ j => simp at h
  | (b', some c') :: R, i, j, b, sp, hv, h => by
    have hvR : (c' = 44 ∨ c' = 47) ∧ valid R := by
      cases R with
      | nil => cases hv
      | cons q R => exact ⟨by rcases hv.1 with h | h; exact .inl (Option.some.inj h); exact .inr (Option.some.inj h), hv.2⟩
    cases j with
    | zero =>
      simp at h
      obtain ⟨rfl, rfl⟩ := h
      refine ⟨⟨_, rfl⟩, ⟨_, rfl⟩, (fun h => by cases h), fun c h => ?_⟩
      cases h
      rcases hvR.1 with rfl | rfl
      · exact ⟨_, rfl⟩
      · exact ⟨_, rfl⟩
    | succ j =>
      have h' : R[j]? = some (b, sp) := by simpa using h
      have e0 : 3 * (j + 1) = 3 * j + 3 := by omega
      have e1 : 3 * (j + 1) + 1 = 3 * j + 1 + 3 := by omega
      have e2 : 3 * (j + 1) + 2 = 3 * j + 2 + 3 := by omega
      rw [e1, e2, e0]
      rcases hvR.1 with rfl | rfl
      · exact itToks_get R (i + (pxText b'.1).length + 1 + (pxText b'.2).length + 2) j b sp hvR.2 h' |> fun ⟨a1, a2, a3, a4⟩ => ⟨a1, a2, fun hs => by show _ + 1 + 1 + 1 = _; rw [a3 hs], a4⟩
      · exact itToks_get R (i + (pxText b'.1).length + 1 + (pxText b'.2).length + 3) j b sp hvR.2 h' |> fun ⟨a1, a2, a3, a4⟩ => ⟨a1, a2, fun hs => by show _ + 1 + 1 + 1 = _; rw [a3 hs], a4⟩
end Go.Proofs.YtapnjabhcdlhbaaGreatDoor.Ab
namespace Go.Proofs.YtapnjabhcdlhbaaGreatDoor.Ab
open Go
set_option linter.unusedSimpArgs false
set_option maxRecDepth 100000
set_option linter.unusedVariables false
set_option maxHeartbeats 4000000
theorem B_eqq {a b : Bool} (h : a = b) : B a = B b := by rw [h]
theorem vsign_ok (l : List Tok) (v : DV) (hv : toksA l v) (at_ : Int) (x : List UInt8) (b : Bool) (hb : b = decide ((wordS l at_).kind = 7 ∧ (wordS l at_).text = x)) : Pur F0 109 [.d v, I at_, S x] [] .no (.ret (B b)) .no := by
  have ht := word_ok l v hv at_
  generalize wordS l at_ = t at *
  refine pur_code code109_ok ?_
  conv => whnf
  by_cases h7 : t.kind = 7
  · have q1 : ieq t.kind (Int.ofNat 7) = true := by rw [ieq_t]; exact h7
    by_cases hx : t.text = x
    · have q2 : seq t.text x = true := by rw [seq_t]; exact hx
      rw [decide_eq_true ⟨h7, hx⟩] at hb
      subst hb
      repeat' (first
        | (refine vb_t rfl ?_; conv => whnf)
        | (refine vb_f rfl ?_; conv => whnf)
        | (refine vb_t (by assumption) ?_; conv => whnf)
        | (refine vb_f (by assumption) ?_; conv => whnf)
        | (refine vpur_i ht ?_; conv => whnf)
        | fail)
      exact ⟨congrArg CR.ret (B_eqq q2), rfl⟩
    · have q2 : seq t.text x = false := by rw [seq_f]; exact hx
      rw [decide_eq_false (fun h => hx h.2)] at hb
      subst hb
      repeat' (first
        | (refine vb_t rfl ?_; conv => whnf)
        | (refine vb_f rfl ?_; conv => whnf)
        | (refine vb_t (by assumption) ?_; conv => whnf)
        | (refine vb_f (by assumption) ?_; conv => whnf)
        | (refine vpur_i ht ?_; conv => whnf)
        | fail)
      exact ⟨congrArg CR.ret (B_eqq q2), rfl⟩
  · have q1 : ieq t.kind (Int.ofNat 7) = false := by rw [ieq_f]; exact h7
    rw [decide_eq_false (fun h => h7 h.1)] at hb
    subst hb
    repeat' (first
      | (refine vb_t rfl ?_; conv => whnf)
      | (refine vb_f rfl ?_; conv => whnf)
      | (refine vb_t (by assumption) ?_; conv => whnf)
      | (refine vb_f (by assumption) ?_; conv => whnf)
      | (refine vpur_i ht ?_; conv => whnf)
      | fail)
    exact ⟨rfl, rfl⟩
def lineRow (l : List Bx) : List DV := [.sl 2 (l.map bxRow)]
def outV : Option (Nat × List (List Bx)) → AV
  | none => .d .nilsl
  | some (g, o) => .osl 0 g 0 o.length
def wrdV : Option (Nat × List (List Bx)) → Option (Nat × List Bx) → AV
  | _, none => .d .nilsl
  | none, some (g, l) => .osl 0 g 0 l.length
  | some _, some (g, l) => .osl 1 g 0 l.length
def outH : Option (Nat × List (List Bx)) → Heap
  | none => []
  | some (g, o) => [⟨.mine, 88, .arr true g 1 (o.map lineRow)⟩]
def wrdH : Option (Nat × List Bx) → Heap
  | none => []
  | some (g, l) => [⟨.mine, 90, .arr true g 2 (l.map bxRow)⟩]
def outL : Option (Nat × List (List Bx)) → List (List Bx)
  | none => []
  | some (_, o) => o
def wrdL : Option (Nat × List Bx) → List Bx
  | none => []
  | some (_, l) => l
theorem lt2 : ilt (Int.ofNat 0) (Int.ofNat 2) = true ∧ ilt (Int.ofNat 1) (Int.ofNat 2) = true ∧ ilt (Int.ofNat 2) (Int.ofNat 2) = false := by simp only [ilt_t, ilt_f]; decide
theorem inn2 : (ile 0 (Int.ofNat 0) && ilt (Int.ofNat 0) (Int.ofNat 2)) = true ∧ (ile 0 (Int.ofNat 1) && ilt (Int.ofNat 1) (Int.ofNat 2)) = true := by simp only [Bool.and_eq_true, ile_t, ilt_t]; decide
theorem itToks_tok : ∀ (R : List It) (i : Nat), ∀ t ∈ itToks R i, tokOk t
  | [], i, t, h => by cases h
  | (b, none) :: R, i, t, h => by
    rcases List.mem_cons.1 h with rfl | h
    · exact sizeTok_ok _ _ _
    · rw [List.mem_singleton.1 h]; exact sizeTok_ok _ _ _
  | (b, some c) :: R, i, t, h => by
    have hs : ∀ (a : Int) (x : UInt8), tokOk ⟨7, a, [x], []⟩ := fun a x => ⟨by simp, by simp⟩
    by_cases hc : c = 44
    · subst hc
      rcases List.mem_cons.1 h with rfl | h
      · exact sizeTok_ok _ _ _
      rcases List.mem_cons.1 h with rfl | h
      · exact sizeTok_ok _ _ _
      rcases List.mem_cons.1 h with rfl | h
      · exact hs _ _
      · exact itToks_tok R _ t h
    · rw [itToks] at h
      simp only [if_neg hc] at h
      rcases List.mem_cons.1 h with rfl | h
      · exact sizeTok_ok _ _ _
      rcases List.mem_cons.1 h with rfl | h
      · exact sizeTok_ok _ _ _
      rcases List.mem_cons.1 h with rfl | h
      · exact hs _ _
      · exact itToks_tok R _ t h
theorem readItems_ok (its : List It) (s : List UInt8) (w : List (List Bx)) (hv : valid its) (hok : itsOk its) (hw : grp [] [] its = w) (hn : its.length ≤ 256) :
    Pur F0 56 [.d (.sl 4 ((itToks its 0 ++ [endT s]).map tokRow)), I (Int.ofNat 0)] [] .no (.ret (.tup [.d (.sl 1 (w.map lineRow)), I (((itToks its 0).length : Nat) : Int), I 0])) .no := by
  obtain ⟨W, hW⟩ : ∃ W, itToks its 0 ++ [endT s] = W := ⟨_, rfl⟩
  have hA : toksA W (.sl 4 (W.map tokRow)) := .inr rfl
  have hWok : ∀ t ∈ W, tokOk t := fun t ht => by
    rw [← hW] at ht
    rcases List.mem_append.1 ht with ht | ht
    · exact itToks_tok its 0 t ht
    · rw [List.mem_singleton.1 ht]; exact endT_ok s
  have hget : ∀ (j : Nat) (b : Bx) (sp : Option UInt8), its[j]? = some (b, sp) →
      Pur F0 24 [.d (.sl 4 (W.map tokRow)), I ((3 * j : Nat) : Int), I (Int.ofNat 0)] [] .no (.ret (.tup [.agg [I 2, I b.1], I ((3 * j + 1 : Nat) : Int), I 0])) .no ∧
      Pur F0 24 [.d (.sl 4 (W.map tokRow)), I ((3 * j + 1 : Nat) : Int), I (Int.ofNat 0)] [] .no (.ret (.tup [.agg [I 2, I b.2], I ((3 * j + 2 : Nat) : Int), I 0])) .no ∧
      Pur F0 109 [.d (.sl 4 (W.map tokRow)), I ((3 * j + 2 : Nat) : Int), S [44]] [] .no (.ret (B (decide (sp = some 44)))) .no ∧
      Pur F0 109 [.d (.sl 4 (W.map tokRow)), I ((3 * j + 2 : Nat) : Int), S [47]] [] .no (.ret (B (decide (sp = some 47)))) .no ∧ (sp = none → (itToks its 0).length = 3 * j + 2) := fun j b sp hx => by
    have hj := (List.getElem?_eq_some_iff.1 hx).1
    obtain ⟨⟨a1, h1⟩, ⟨a2, h2⟩, h3, h4⟩ := itToks_get its 0 j b sp hv hx
    obtain ⟨k1, k2⟩ := hok (b, sp) (List.mem_of_getElem? hx)
    obtain ⟨g1, g1', _⟩ := side_good k1
    obtain ⟨g2, g2', _⟩ := side_good k2
    have w1 : wordS W ((3 * j : Nat) : Int) = sizeTok 2 b.1 a1 := by rw [← hW]; exact wordS_app h1
    have w2 : wordS W ((3 * j + 1 : Nat) : Int) = sizeTok 2 b.2 a2 := by rw [← hW]; exact wordS_app h2
    have r1 := read_ok W _ hA hWok ((3 * j : Nat) : Int) (Int.ofNat 0)
    have r2 := read_ok W _ hA hWok ((3 * j + 1 : Nat) : Int) (Int.ofNat 0)
    rw [w1, (readS_size (i := a1) (a := ((3 * j : Nat) : Int)) (allow := Int.ofNat 0) g1).1 g1'] at r1
    rw [w2, (readS_size (i := a2) (a := ((3 * j + 1 : Nat) : Int)) (allow := Int.ofNat 0) g2).1 g2'] at r2
    have e1 : iadd .i64 ((3 * j : Nat) : Int) 1 = ((3 * j + 1 : Nat) : Int) := by rw [iadd64 (by omega) (by omega)]; omega
    have e2 : iadd .i64 ((3 * j + 1 : Nat) : Int) 1 = ((3 * j + 2 : Nat) : Int) := by rw [iadd64 (by omega) (by omega)]; omega
    rw [e1] at r1
    rw [e2] at r2
    have hsg : ∀ x : UInt8, decide (sp = some x) = decide ((wordS W ((3 * j + 2 : Nat) : Int)).kind = 7 ∧ (wordS W ((3 * j + 2 : Nat) : Int)).text = [x]) := fun x => by
      cases sp with
      | none =>
        have : ((3 * j + 2 : Nat) : Int) = ((itToks its 0).length : Int) := by rw [h3 rfl]
        rw [this, ← hW, wordS_last]
        rw [decide_eq_false (by simp), decide_eq_false (fun h => by have h5 : (8 : Int) = 7 := h.1; omega)]
      | some c =>
        obtain ⟨a, ha⟩ := h4 c rfl
        rw [← hW, wordS_app ha]
        simp
    exact ⟨r1, r2, vsign_ok W _ hA _ [44] _ (hsg 44), vsign_ok W _ hA _ [47] _ (hsg 47), h3⟩
  have hkw : Pur F0 62 [.d (.sl 4 (W.map tokRow)), I (Int.ofNat 0), .d (.sl 1 ([[110, 111, 110, 101]].map wsRow))] [] .no (.ret (.tup [I (-1), I (Int.ofNat 0)])) .no := by
    have h := keyword_ok W _ hA hWok (Int.ofNat 0) [[110, 111, 110, 101]] (by decide) (by decide)
    obtain ⟨x, hx⟩ : ∃ x, its[0]? = some x := by
      cases its with
      | nil => exact hv.elim
      | cons x R => exact ⟨x, rfl⟩
    obtain ⟨b, sp⟩ := x
    obtain ⟨⟨a1, h1⟩, _⟩ := itToks_get its 0 0 b sp hv hx
    have w1 : wordS W (Int.ofNat 0) = sizeTok 2 b.1 a1 := by rw [← hW]; exact wordS_app (j := 0) h1
    rw [w1, kwA_miss _ (fun hk => by have h5 : (5 : Int) = 1 := hk; omega)] at h
    exact h
  have z1 : ieq (-1 : Int) (Int.ofNat 0) = false := by rw [ieq_f]; decide
  have z2 : (!ieq (0 : Int) (Int.ofNat 0)) = false := by rw [show ieq (0 : Int) (Int.ofNat 0) = true from by rw [ieq_t]; rfl]; rfl
  obtain ⟨a1, a2, a3⟩ := lt2
  obtain ⟨b1, b2⟩ := inn2
  rw [hW]
  obtain ⟨N, hN⟩ : ∃ N, (itToks its 0).length = N := ⟨_, rfl⟩
  rw [hN] at hget ⊢
  refine pur_code code56_ok ?_
  conv => whnf
  repeat' (first
    | (refine vb_t rfl ?_; conv => whnf)
    | (refine vb_f rfl ?_; conv => whnf)
    | (refine vb_t (by assumption) ?_; conv => whnf)
    | (refine vb_f (by assumption) ?_; conv => whnf)
    | (refine vpur_i hkw ?_; conv => whnf)
    | fail)
  refine vloop_eq2 (fr' := [(0, .d (.sl 4 (W.map tokRow))), (4, outV none), (5, I ((3 * 0 : Nat) : Int)), (6, I 0), (9, I ((0 : Nat) : Int)), (10, wrdV none none)]) (h' := outH none ++ wrdH none) rfl rfl ?_
  refine vloop_by (σ := { x : Nat × Option (Nat × List (List Bx)) × Option (Nat × List Bx) // valid (its.drop x.1) ∧ grp (outL x.2.1) (wrdL x.2.2) (its.drop x.1) = w ∧ (outL x.2.1).length ≤ x.1 ∧ (wrdL x.2.2).length ≤ x.1 })
    (fun x => [(0, .d (.sl 4 (W.map tokRow))), (4, outV x.1.2.1), (5, I ((3 * x.1.1 : Nat) : Int)), (6, I 0), (9, I ((x.1.1 : Nat) : Int)), (10, wrdV x.1.2.1 x.1.2.2)]) (fun x => outH x.1.2.1 ++ wrdH x.1.2.2) (fun x => its.length - x.1.1) ?_ ⟨(0, none, none), hv, hw, Nat.le_refl _, Nat.le_refl _⟩
  clear hkw z1 hW hN hv hok hw
  rintro ⟨⟨j, x, y⟩, hv, hw, hol, hwl⟩
  simp only at hv hw hol hwl
  have hj : j < its.length := by
    rcases Nat.lt_or_ge j its.length with h | h
    · exact h
    · rw [List.drop_eq_nil_of_le h] at hv; exact hv.elim
  obtain ⟨⟨⟨p, q⟩, sp⟩, hx⟩ : ∃ x, its[j]? = some x := ⟨its[j], List.getElem?_eq_getElem hj⟩
  obtain ⟨r1, r2, s1, s2, hlast⟩ := hget j (p, q) sp hx
  simp only at r1 r2
  have q0 : ile (Int.ofNat 256) (j : Int) = false := by rw [ile_f, ofn]; omega
  rw [drop_get hx] at hv hw
  have hsp : (sp = some 44 ∧ valid (its.drop (j + 1))) ∨ (sp = some 47 ∧ valid (its.drop (j + 1))) ∨ sp = none := by
    cases hR : its.drop (j + 1) with
    | nil => rw [hR] at hv; exact .inr (.inr hv)
    | cons z R =>
      rw [hR] at hv
      rcases hv.1 with h | h
      · exact .inl ⟨h, hv.2⟩
      · exact .inr (.inl ⟨h, hv.2⟩)
  clear hv
  have e5 : iadd .i64 ((3 * j + 2 : Nat) : Int) (Int.ofNat 1) = ((3 * (j + 1) : Nat) : Int) := (iadd_one (i := 3 * j + 2) (by omega)).trans (by omega)
  have e9 : iadd .i64 (j : Int) (Int.ofNat 1) = ((j + 1 : Nat) : Int) := iadd_one (by omega)
  rcases x with _ | ⟨g, o⟩ <;> rcases y with _ | ⟨g2, l⟩
  · conv => whnf
    repeat' (first
      | (refine vb_t rfl ?_; conv => whnf)
      | (refine vb_f rfl ?_; conv => whnf)
      | (refine vb_t (by assumption) ?_; conv => whnf)
      | (refine vb_f (by assumption) ?_; conv => whnf)
      | (simp only [ia0, ia1]; conv => whnf)
      | (refine vloop_once ?_; conv => whnf)
      | (refine vpur_i r1 ?_; conv => whnf)
      | (refine vpur_i r2 ?_; conv => whnf)
      | (refine vb_t (room_t (by simp <;> omega)) ?_; conv => whnf)
      | fail)
    rcases hsp with ⟨rfl, hvR⟩ | ⟨rfl, hvR⟩ | rfl
    · rw [decide_eq_true rfl] at s1
      repeat' (first
        | (refine vb_t rfl ?_; conv => whnf)
        | (refine vb_f rfl ?_; conv => whnf)
        | (refine vb_t (by assumption) ?_; conv => whnf)
        | (refine vb_f (by assumption) ?_; conv => whnf)
        | (refine vpur_i s1 ?_; conv => whnf)
        | fail)
      exact ⟨⟨(j + 1, none, some (0, [(p, q)])), hvR, hw, Nat.zero_le _, by show 1 ≤ j + 1; omega⟩, by simp only; omega, cons_eq rfl (cons_eq rfl (cons_eq (slot_eq (I_eq e5)) (cons_eq rfl (cons_eq (slot_eq (I_eq e9)) (rfl))))), rfl, rfl, rfl⟩
    · rw [decide_eq_false (by decide)] at s1
      rw [decide_eq_true rfl] at s2
      repeat' (first
        | (refine vb_t rfl ?_; conv => whnf)
        | (refine vb_f rfl ?_; conv => whnf)
        | (refine vb_t (by assumption) ?_; conv => whnf)
        | (refine vb_f (by assumption) ?_; conv => whnf)
        | (refine vpur_i s1 ?_; conv => whnf)
        | (refine vpur_i s2 ?_; conv => whnf)
        | (refine vb_t (room_t (by simp <;> omega)) ?_; conv => whnf)
        | fail)
      refine ⟨⟨(j + 1, some (0, [[(p, q)]]), none), hvR, hw, by show 1 ≤ j + 1; omega, Nat.zero_le _⟩, by simp only; omega, cons_eq rfl (cons_eq rfl (cons_eq (slot_eq (I_eq e5)) (cons_eq rfl (cons_eq (slot_eq (I_eq e9)) rfl)))), ?_, rfl, rfl⟩
      show ([⟨.mine, 88, .arr true 0 1 [[DV.sl 2 [bxRow (p, q)]]]⟩] : Heap) = [⟨.mine, 88, .arr true 0 1 [lineRow [(p, q)]]⟩]
      rfl
    · rw [decide_eq_false (by decide)] at s1 s2
      have hw : [[(p, q)]] = w := hw
      have hl := hlast rfl
      subst hl hw
      repeat' (first
        | (refine vb_t rfl ?_; conv => whnf)
        | (refine vb_f rfl ?_; conv => whnf)
        | (refine vb_t (by assumption) ?_; conv => whnf)
        | (refine vb_f (by assumption) ?_; conv => whnf)
        | (refine vpur_i s1 ?_; conv => whnf)
        | (refine vpur_i s2 ?_; conv => whnf)
        | (refine vb_t (room_t (by simp <;> omega)) ?_; conv => whnf)
        | fail)
      refine ⟨congrArg CR.ret ?_, rfl⟩
      show AV.tup [.d (.sl 1 [[DV.sl 2 [bxRow (p, q)]]]), I ((3 * j + 2 : Nat) : Int), I 0] = .tup [.d (.sl 1 [lineRow [(p, q)]]), I ((3 * j + 2 : Nat) : Int), I 0]
      rfl
  · have hgg2 : Nat.beq g2 g2 = true := by simp
    have hq2 : ieq (l.length : Int) ((l.map bxRow).length : Int) = true := by rw [ieq_t]; simp
    have he2 : (l.map bxRow ++ [bxRow (p, q)]).isEmpty = false := by cases l <;> rfl
    have hll : l.length ≤ j := hwl
    have hrow : ((l.map bxRow ++ [bxRow (p, q)]).take ((l.map bxRow).length + 1)).drop 0 = (l ++ [(p, q)]).map bxRow := by rw [List.drop_zero, List.take_of_length_le (by simp), List.map_append]; rfl
    conv => whnf
    repeat' (first
      | (refine vb_t rfl ?_; conv => whnf)
      | (refine vb_f rfl ?_; conv => whnf)
      | (refine vb_t (by assumption) ?_; conv => whnf)
      | (refine vb_f (by assumption) ?_; conv => whnf)
      | (simp only [ia0, ia1]; conv => whnf)
      | (refine vloop_once ?_; conv => whnf)
      | (refine vpur_i r1 ?_; conv => whnf)
      | (refine vpur_i r2 ?_; conv => whnf)
      | (refine vb_t (room_t (by simp <;> omega)) ?_; conv => whnf)
      | fail)
    rcases hsp with ⟨rfl, hvR⟩ | ⟨rfl, hvR⟩ | rfl
    · rw [decide_eq_true rfl] at s1
      repeat' (first
        | (refine vb_t rfl ?_; conv => whnf)
        | (refine vb_f rfl ?_; conv => whnf)
        | (refine vb_t (by assumption) ?_; conv => whnf)
        | (refine vb_f (by assumption) ?_; conv => whnf)
        | (refine vpur_i s1 ?_; conv => whnf)
        | fail)
      exact ⟨⟨(j + 1, none, some (g2 + 1, l ++ [(p, q)])), hvR, hw, Nat.zero_le _, by show (l ++ [(p, q)]).length ≤ j + 1; simp; omega⟩, by simp only; omega, cons_eq rfl (cons_eq rfl (cons_eq (slot_eq (I_eq e5)) (cons_eq rfl (cons_eq (slot_eq (I_eq e9)) (cons_eq (slot_eq (osl_eq rfl (by simp))) rfl))))), cons_eq (arr_eq (by rw [List.map_append]; rfl)) rfl, rfl, rfl⟩
    · rw [decide_eq_false (by decide)] at s1
      rw [decide_eq_true rfl] at s2
      repeat' (first
        | (refine vb_t rfl ?_; conv => whnf)
        | (refine vb_f rfl ?_; conv => whnf)
        | (refine vb_t (by assumption) ?_; conv => whnf)
        | (refine vb_f (by assumption) ?_; conv => whnf)
        | (refine vpur_i s1 ?_; conv => whnf)
        | (refine vpur_i s2 ?_; conv => whnf)
        | (refine vb_t (room_t (by simp <;> omega)) ?_; conv => whnf)
        | fail)
      refine ⟨⟨(j + 1, some (0, [(l ++ [(p, q)])]), none), hvR, hw, by show 1 ≤ j + 1; omega, Nat.zero_le _⟩, by simp only; omega, cons_eq rfl (cons_eq rfl (cons_eq (slot_eq (I_eq e5)) (cons_eq rfl (cons_eq (slot_eq (I_eq e9)) rfl)))), ?_, rfl, rfl⟩
      show ([⟨.mine, 88, .arr true 0 1 [[DV.sl 2 (((l.map bxRow ++ [bxRow (p, q)]).take ((l.map bxRow).length + 1)).drop 0)]]⟩] : Heap) = [⟨.mine, 88, .arr true 0 1 [lineRow (l ++ [(p, q)])]⟩]
      rw [hrow]; rfl
    · rw [decide_eq_false (by decide)] at s1 s2
      have hw : [(l ++ [(p, q)])] = w := hw
      have hl := hlast rfl
      subst hl hw
      repeat' (first
        | (refine vb_t rfl ?_; conv => whnf)
        | (refine vb_f rfl ?_; conv => whnf)
        | (refine vb_t (by assumption) ?_; conv => whnf)
        | (refine vb_f (by assumption) ?_; conv => whnf)
        | (refine vpur_i s1 ?_; conv => whnf)
        | (refine vpur_i s2 ?_; conv => whnf)
        | (refine vb_t (room_t (by simp <;> omega)) ?_; conv => whnf)
        | fail)
      refine ⟨congrArg CR.ret ?_, rfl⟩
      show AV.tup [.d (.sl 1 [[DV.sl 2 (((l.map bxRow ++ [bxRow (p, q)]).take ((l.map bxRow).length + 1)).drop 0)]]), I ((3 * j + 2 : Nat) : Int), I 0] = .tup [.d (.sl 1 [lineRow (l ++ [(p, q)])]), I ((3 * j + 2 : Nat) : Int), I 0]
      rw [hrow]; rfl
  · have hgg : Nat.beq g g = true := by simp
    have hq : ieq (o.length : Int) ((o.map lineRow).length : Int) = true := by rw [ieq_t]; simp
    have hoo : o.length ≤ j := hol
    have he : (o.map lineRow ++ [[DV.sl 2 [bxRow (p, q)]]]).isEmpty = false := by cases o <;> rfl
    have hma : (o ++ [[(p, q)]]).map lineRow = o.map lineRow ++ [lineRow [(p, q)]] := by rw [List.map_append]; rfl
    have hrow2 : ((o.map lineRow ++ [lineRow [(p, q)]]).take ((o.map lineRow).length + 1)).drop 0 = (o ++ [[(p, q)]]).map lineRow := by rw [List.drop_zero, List.take_of_length_le (by simp), List.map_append]; rfl
    conv => whnf
    repeat' (first
      | (refine vb_t rfl ?_; conv => whnf)
      | (refine vb_f rfl ?_; conv => whnf)
      | (refine vb_t (by assumption) ?_; conv => whnf)
      | (refine vb_f (by assumption) ?_; conv => whnf)
      | (simp only [ia0, ia1]; conv => whnf)
      | (refine vloop_once ?_; conv => whnf)
      | (refine vpur_i r1 ?_; conv => whnf)
      | (refine vpur_i r2 ?_; conv => whnf)
      | (refine vb_t (room_t (by simp <;> omega)) ?_; conv => whnf)
      | fail)
    rcases hsp with ⟨rfl, hvR⟩ | ⟨rfl, hvR⟩ | rfl
    · rw [decide_eq_true rfl] at s1
      repeat' (first
        | (refine vb_t rfl ?_; conv => whnf)
        | (refine vb_f rfl ?_; conv => whnf)
        | (refine vb_t (by assumption) ?_; conv => whnf)
        | (refine vb_f (by assumption) ?_; conv => whnf)
        | (refine vpur_i s1 ?_; conv => whnf)
        | fail)
      exact ⟨⟨(j + 1, some (g, o), some (0, [(p, q)])), hvR, hw, by show o.length ≤ j + 1; omega, by show 1 ≤ j + 1; omega⟩, by simp only; omega, cons_eq rfl (cons_eq rfl (cons_eq (slot_eq (I_eq e5)) (cons_eq rfl (cons_eq (slot_eq (I_eq e9)) (rfl))))), cons_eq rfl (rfl), rfl, rfl⟩
    · rw [decide_eq_false (by decide)] at s1
      rw [decide_eq_true rfl] at s2
      repeat' (first
        | (refine vb_t rfl ?_; conv => whnf)
        | (refine vb_f rfl ?_; conv => whnf)
        | (refine vb_t (by assumption) ?_; conv => whnf)
        | (refine vb_f (by assumption) ?_; conv => whnf)
        | (refine vpur_i s1 ?_; conv => whnf)
        | (refine vpur_i s2 ?_; conv => whnf)
        | (refine vb_t (room_t (by simp <;> omega)) ?_; conv => whnf)
        | fail)
      refine ⟨⟨(j + 1, some (g + 1, o ++ [[(p, q)]]), none), hvR, hw, by show (o ++ [[(p, q)]]).length ≤ j + 1; simp; omega, Nat.zero_le _⟩, by simp only; omega, cons_eq rfl (cons_eq (slot_eq (osl_eq rfl (by simp))) (cons_eq (slot_eq (I_eq e5)) (cons_eq rfl (cons_eq (slot_eq (I_eq e9)) rfl)))), ?_, rfl, rfl⟩
      show ([⟨.mine, 88, .arr true (g + 1) 1 (o.map lineRow ++ [[DV.sl 2 [bxRow (p, q)]]])⟩] : Heap) = [⟨.mine, 88, .arr true (g + 1) 1 ((o ++ [[(p, q)]]).map lineRow)⟩]
      rw [hma]; rfl
    · rw [decide_eq_false (by decide)] at s1 s2
      have hw : o ++ [[(p, q)]] = w := hw
      have hl := hlast rfl
      subst hl hw
      repeat' (first
        | (refine vb_t rfl ?_; conv => whnf)
        | (refine vb_f rfl ?_; conv => whnf)
        | (refine vb_t (by assumption) ?_; conv => whnf)
        | (refine vb_f (by assumption) ?_; conv => whnf)
        | (refine vpur_i s1 ?_; conv => whnf)
        | (refine vpur_i s2 ?_; conv => whnf)
        | (refine vb_t (room_t (by simp <;> omega)) ?_; conv => whnf)
        | fail)
      refine ⟨congrArg CR.ret ?_, rfl⟩
      show AV.tup [.d (.sl 1 (((o.map lineRow ++ [[DV.sl 2 [bxRow (p, q)]]]).take ((o.map lineRow).length + 1)).drop 0)), I ((3 * j + 2 : Nat) : Int), I 0] = .tup [.d (.sl 1 ((o ++ [[(p, q)]]).map lineRow)), I ((3 * j + 2 : Nat) : Int), I 0]
      rw [← hrow2]; rfl
  · have hgg2 : Nat.beq g2 g2 = true := by simp
    have hq2 : ieq (l.length : Int) ((l.map bxRow).length : Int) = true := by rw [ieq_t]; simp
    have he2 : (l.map bxRow ++ [bxRow (p, q)]).isEmpty = false := by cases l <;> rfl
    have hll : l.length ≤ j := hwl
    have hrow : ((l.map bxRow ++ [bxRow (p, q)]).take ((l.map bxRow).length + 1)).drop 0 = (l ++ [(p, q)]).map bxRow := by rw [List.drop_zero, List.take_of_length_le (by simp), List.map_append]; rfl
    have hgg : Nat.beq g g = true := by simp
    have hq : ieq (o.length : Int) ((o.map lineRow).length : Int) = true := by rw [ieq_t]; simp
    have hoo : o.length ≤ j := hol
    have he : (o.map lineRow ++ [[DV.sl 2 (((l.map bxRow ++ [bxRow (p, q)]).take ((l.map bxRow).length + 1)).drop 0)]]).isEmpty = false := by cases o <;> rfl
    have hma : (o ++ [l ++ [(p, q)]]).map lineRow = o.map lineRow ++ [lineRow (l ++ [(p, q)])] := by rw [List.map_append]; rfl
    have hrow2 : ((o.map lineRow ++ [lineRow (l ++ [(p, q)])]).take ((o.map lineRow).length + 1)).drop 0 = (o ++ [(l ++ [(p, q)])]).map lineRow := by rw [List.drop_zero, List.take_of_length_le (by simp), List.map_append]; rfl
    conv => whnf
    repeat' (first
      | (refine vb_t rfl ?_; conv => whnf)
      | (refine vb_f rfl ?_; conv => whnf)
      | (refine vb_t (by assumption) ?_; conv => whnf)
      | (refine vb_f (by assumption) ?_; conv => whnf)
      | (simp only [ia0, ia1]; conv => whnf)
      | (refine vloop_once ?_; conv => whnf)
      | (refine vpur_i r1 ?_; conv => whnf)
      | (refine vpur_i r2 ?_; conv => whnf)
      | (refine vb_t (room_t (by simp <;> omega)) ?_; conv => whnf)
      | fail)
    rcases hsp with ⟨rfl, hvR⟩ | ⟨rfl, hvR⟩ | rfl
    · rw [decide_eq_true rfl] at s1
      repeat' (first
        | (refine vb_t rfl ?_; conv => whnf)
        | (refine vb_f rfl ?_; conv => whnf)
        | (refine vb_t (by assumption) ?_; conv => whnf)
        | (refine vb_f (by assumption) ?_; conv => whnf)
        | (refine vpur_i s1 ?_; conv => whnf)
        | fail)
      exact ⟨⟨(j + 1, some (g, o), some (g2 + 1, l ++ [(p, q)])), hvR, hw, by show o.length ≤ j + 1; omega, by show (l ++ [(p, q)]).length ≤ j + 1; simp; omega⟩, by simp only; omega, cons_eq rfl (cons_eq rfl (cons_eq (slot_eq (I_eq e5)) (cons_eq rfl (cons_eq (slot_eq (I_eq e9)) (cons_eq (slot_eq (osl_eq rfl (by simp))) rfl))))), cons_eq rfl (cons_eq (arr_eq (by rw [List.map_append]; rfl)) rfl), rfl, rfl⟩
    · rw [decide_eq_false (by decide)] at s1
      rw [decide_eq_true rfl] at s2
      repeat' (first
        | (refine vb_t rfl ?_; conv => whnf)
        | (refine vb_f rfl ?_; conv => whnf)
        | (refine vb_t (by assumption) ?_; conv => whnf)
        | (refine vb_f (by assumption) ?_; conv => whnf)
        | (refine vpur_i s1 ?_; conv => whnf)
        | (refine vpur_i s2 ?_; conv => whnf)
        | (refine vb_t (room_t (by simp <;> omega)) ?_; conv => whnf)
        | fail)
      refine ⟨⟨(j + 1, some (g + 1, o ++ [(l ++ [(p, q)])]), none), hvR, hw, by show (o ++ [(l ++ [(p, q)])]).length ≤ j + 1; simp; omega, Nat.zero_le _⟩, by simp only; omega, cons_eq rfl (cons_eq (slot_eq (osl_eq rfl (by simp))) (cons_eq (slot_eq (I_eq e5)) (cons_eq rfl (cons_eq (slot_eq (I_eq e9)) rfl)))), ?_, rfl, rfl⟩
      show ([⟨.mine, 88, .arr true (g + 1) 1 (o.map lineRow ++ [[DV.sl 2 (((l.map bxRow ++ [bxRow (p, q)]).take ((l.map bxRow).length + 1)).drop 0)]])⟩] : Heap) = [⟨.mine, 88, .arr true (g + 1) 1 ((o ++ [(l ++ [(p, q)])]).map lineRow)⟩]
      rw [hrow, hma]; rfl
    · rw [decide_eq_false (by decide)] at s1 s2
      have hw : o ++ [(l ++ [(p, q)])] = w := hw
      have hl := hlast rfl
      subst hl hw
      repeat' (first
        | (refine vb_t rfl ?_; conv => whnf)
        | (refine vb_f rfl ?_; conv => whnf)
        | (refine vb_t (by assumption) ?_; conv => whnf)
        | (refine vb_f (by assumption) ?_; conv => whnf)
        | (refine vpur_i s1 ?_; conv => whnf)
        | (refine vpur_i s2 ?_; conv => whnf)
        | (refine vb_t (room_t (by simp <;> omega)) ?_; conv => whnf)
        | fail)
      refine ⟨congrArg CR.ret ?_, rfl⟩
      show AV.tup [.d (.sl 1 (((o.map lineRow ++ [[DV.sl 2 (((l.map bxRow ++ [bxRow (p, q)]).take ((l.map bxRow).length + 1)).drop 0)]]).take ((o.map lineRow).length + 1)).drop 0)), I ((3 * j + 2 : Nat) : Int), I 0] = .tup [.d (.sl 1 ((o ++ [(l ++ [(p, q)])]).map lineRow)), I ((3 * j + 2 : Nat) : Int), I 0]
      rw [hrow]
      rw [← hrow2]; rfl
end Go.Proofs.YtapnjabhcdlhbaaGreatDoor.Ab
namespace Go.Proofs.YtapnjabhcdlhbaaGreatDoor.Ab
open Go
set_option linter.unusedSimpArgs false
set_option maxRecDepth 100000
set_option linter.unusedVariables false
set_option maxHeartbeats 4000000
theorem words9_ok (s : List UInt8) (L : List Tok) (hs : s.length ≤ 100000) (h : Lexes s 0 L) (hL : L.length ≤ 60000) : Pur F0 55 [S s] [] .no (.ret (.d (.sl 4 ((L ++ [endT s]).map tokRow)))) .no := by
  have ht := tokens_ok s L hs h hL
  refine pur_code code55_ok ?_
  conv => whnf
  have hdr : List.drop 0 (List.take s.length (List.map byteRow s)) = s.map byteRow := by rw [List.drop_zero, List.take_of_length_le (by simp)]
  repeat' (first
    | (refine vb_t rfl ?_; conv => whnf)
    | (refine vb_f rfl ?_; conv => whnf)
    | (refine vb_t (by assumption) ?_; conv => whnf)
    | (refine vb_f (by assumption) ?_; conv => whnf)
    | (rw [hdr]; conv => whnf)
    | (refine vpur_i ht ?_; conv => whnf)
    | fail)
  exact ⟨rfl, rfl⟩
theorem goodL_63 {k n a : Int} (h : goodL k n a = true) (ha : a = 7 ∨ a = 1) : goodL k n 63 = true := by
  have hb : ∀ b : Int, (b = 1 ∨ b = 2 ∨ b = 4 ∨ b = 8 ∨ b = 16 ∨ b = 32) → hasBit a b = true → hasBit 63 b = true := fun b hb _ => by
    have e : ∀ j : Nat, j < 6 → hasBit 63 ((2 ^ j : Nat) : Int) = true := fun j hj => by
      rw [hasB 63 j hj]
      have : ∀ j : Nat, j < 6 → decide (six 63 / 2 ^ j % 2 = 1) = true := by decide
      exact this j hj
    rcases hb with rfl | rfl | rfl | rfl | rfl | rfl
    · exact e 0 (by decide)
    · exact e 1 (by decide)
    · exact e 2 (by decide)
    · exact e 3 (by decide)
    · exact e 4 (by decide)
    · exact e 5 (by decide)
  have hw : ∀ m, within n a m = true → within n 63 m = true := fun m h => by
    unfold within at h ⊢
    split at h
    · rename_i h0
      rw [if_pos h0]
      split at h
      · rename_i h2
        rw [if_pos (hb 2 (by decide) h2)]; exact h
      · cases h
    · rename_i h0
      rw [if_neg h0]; exact h
  unfold goodL at h ⊢
  split at h
  · rename_i h2; rw [if_pos h2]; exact hw _ h
  · rename_i h2
    rw [if_neg h2]
    split at h
    · rename_i h3
      rw [if_pos h3]
      rw [Bool.and_eq_true] at h ⊢
      exact ⟨hb 1 (by decide) h.1, hw _ h.2⟩
    · rename_i h3
      rw [if_neg h3]
      split at h
      · rename_i h6
        rw [if_pos h6]
        simp only [Bool.and_eq_true] at h ⊢
        exact ⟨⟨hb 16 (by decide) h.1.1, h.1.2⟩, h.2⟩
      · rename_i h6
        rw [if_neg h6]
        rw [Bool.and_eq_true] at h ⊢
        refine ⟨h.1, ?_⟩
        have hk : keyBit k = 4 ∨ keyBit k = 8 ∨ keyBit k = 32 ∨ keyBit k = 0 := by unfold keyBit; (repeat' split) <;> simp
        rcases hk with e | e | e | e
        · rw [e] at h ⊢; exact hb 4 (by decide) h.2
        · rw [e] at h ⊢; exact hb 8 (by decide) h.2
        · rw [e] at h ⊢; exact hb 32 (by decide) h.2
        · rw [e, has0 a] at h; cases h.2
/-- Sizes come back from their text. -/
theorem szs_back (P : List (Int × Int)) (a : Int) (ha : a = 7 ∨ a = 1) (most : Nat) (hP : P ≠ []) (hm : P.length ≤ most) (hmm : most ≤ 10) (hg : ∀ p ∈ P, goodL p.1 p.2 a = true) :
    Pur F0 55 [S (szText P)] [] .no (.ret (.d (.sl 4 ((szs P 0 ++ [endT (szText P)]).map tokRow)))) .no ∧ (∀ t ∈ szs P 0 ++ [endT (szText P)], tokOk t) ∧
      someS (rdS (szs P 0 ++ [endT (szText P)]) a) most [] 0 = (P, (P.length : Int), 0) := by
  have h63 : ∀ p ∈ P, goodL p.1 p.2 63 = true := fun p hp => goodL_63 (hg p hp) ha
  have hlen := szText_len P (by omega)
  have hlx := lex_szs (szText P) (by omega) (szText_92 P h63) P 0 hP h63 (Nat.zero_le _) rfl
  refine ⟨words9_ok _ _ (by omega) hlx (by rw [szs_len]; omega), fun t ht => ?_, some_szs P 0 _ a most hP hm (by omega) fun p hp => ⟨h63 p hp, hg p hp⟩⟩
  rcases List.mem_append.1 ht with ht | ht
  · have : ∀ (P : List (Int × Int)) (i : Nat), ∀ t ∈ szs P i, tokOk t := by
      intro P
      induction P with
      | nil => intro i t h; cases h
      | cons p P ih =>
        intro i t h
        rcases List.mem_cons.1 h with rfl | h
        · exact sizeTok_ok _ _ _
        · exact ih _ t h
    exact this P 0 t ht
  · rw [List.mem_singleton.1 ht]; exact endT_ok _
theorem margin_back (k0 n0 k1 n1 k2 n2 k3 n3 : Int) (hg : (goodL k0 n0 7 && goodL k1 n1 7 && goodL k2 n2 7 && goodL k3 n3 7) = true) :
    ∃ (W : List Tok) (N : Int), Pur F0 55 [S (mText k0 n0 k1 n1 k2 n2 k3 n3)] [] .no (.ret (.d (.sl 4 (W.map tokRow)))) .no ∧
      Pur F0 12 [.d (.sl 4 (W.map tokRow)), I (Int.ofNat 0)] [] .no (.ret (.tup [.agg [I k0, I n0, I k1, I n1, I k2, I n2, I k3, I n3], I N, I 0])) .no ∧ (!ieq N (isub .i64 ((W.map tokRow).length : Int) (Int.ofNat 1))) = false := by
  have hall := hg
  simp only [Bool.and_eq_true] at hall
  obtain ⟨⟨⟨g0, g1⟩, g2⟩, g3⟩ := hall
  have key : ∀ P : List (Int × Int), P ≠ [] → P.length ≤ 4 → (∀ p ∈ P, goodL p.1 p.2 7 = true) → mText k0 n0 k1 n1 k2 n2 k3 n3 = szText P → fourI P = [k0, n0, k1, n1, k2, n2, k3, n3] → ∃ (W : List Tok) (N : Int), Pur F0 55 [S (mText k0 n0 k1 n1 k2 n2 k3 n3)] [] .no (.ret (.d (.sl 4 (W.map tokRow)))) .no ∧
      Pur F0 12 [.d (.sl 4 (W.map tokRow)), I (Int.ofNat 0)] [] .no (.ret (.tup [.agg [I k0, I n0, I k1, I n1, I k2, I n2, I k3, I n3], I N, I 0])) .no ∧ (!ieq N (isub .i64 ((W.map tokRow).length : Int) (Int.ofNat 1))) = false := fun P hP hl hgP ht hf => by
    obtain ⟨h1, h2, h3⟩ := szs_back P 7 (.inl rfl) 4 hP hl (by decide) hgP
    have hm := margin_ok (szs P 0 ++ [endT (szText P)]) _ (.inr rfl) h2 (Int.ofNat 0)
    rw [show (Int.ofNat 0) = (0 : Int) from rfl, h3] at hm
    refine ⟨szs P 0 ++ [endT (szText P)], (P.length : Int), by rw [ht]; exact h1, ?_, ?_⟩
    · unfold marA at hm
      rw [if_pos rfl, hf] at hm
      exact hm
    · have e : isub .i64 (((szs P 0 ++ [endT (szText P)]).map tokRow).length : Int) (Int.ofNat 1) = (P.length : Int) := by
        rw [List.length_map, List.length_append, szs_len, ofn, isub64 (by simp <;> omega) (by simp <;> omega)]; simp
      rw [e, show ieq (P.length : Int) (P.length : Int) = true from by rw [ieq_t]]; rfl
  have hT : mText k0 n0 k1 n1 k2 n2 k3 n3 = (if (prEq k0 n0 k1 n1 && prEq k0 n0 k2 n2 && prEq k0 n0 k3 n3) = true then valText k0 n0
     else if (prEq k0 n0 k2 n2 && prEq k1 n1 k3 n3) = true then Lib.join [valText k0 n0, valText k1 n1] [32]
     else if prEq k1 n1 k3 n3 = true then Lib.join [valText k0 n0, valText k1 n1, valText k2 n2] [32]
     else Lib.join [valText k0 n0, valText k1 n1, valText k2 n2, valText k3 n3] [32]) := by unfold mText; rw [if_pos hg]
  have pe : ∀ a b c d : Int, prEq a b c d = true → a = c ∧ b = d := fun a b c d h => by unfold prEq at h; simpa using h
  by_cases c1 : (prEq k0 n0 k1 n1 && prEq k0 n0 k2 n2 && prEq k0 n0 k3 n3) = true
  · rw [if_pos c1] at hT
    simp only [Bool.and_eq_true] at c1
    obtain ⟨rfl, rfl⟩ := pe _ _ _ _ c1.1.1
    obtain ⟨rfl, rfl⟩ := pe _ _ _ _ c1.1.2
    obtain ⟨rfl, rfl⟩ := pe _ _ _ _ c1.2
    exact key [(k0, n0)] (by simp) (by simp) (fun p hp => by rw [List.mem_singleton.1 hp]; exact g0) (by rw [hT]; exact (Lib.join_one _ _).symm) rfl
  rw [if_neg c1] at hT
  by_cases c2 : (prEq k0 n0 k2 n2 && prEq k1 n1 k3 n3) = true
  · rw [if_pos c2] at hT
    simp only [Bool.and_eq_true] at c2
    obtain ⟨rfl, rfl⟩ := pe _ _ _ _ c2.1
    obtain ⟨rfl, rfl⟩ := pe _ _ _ _ c2.2
    exact key [(k0, n0), (k1, n1)] (by simp) (by simp) (fun p hp => by simp at hp; rcases hp with rfl | rfl; exact g0; exact g1) hT rfl
  rw [if_neg c2] at hT
  by_cases c3 : prEq k1 n1 k3 n3 = true
  · rw [if_pos c3] at hT
    obtain ⟨rfl, rfl⟩ := pe _ _ _ _ c3
    exact key [(k0, n0), (k1, n1), (k2, n2)] (by simp) (by simp) (fun p hp => by simp at hp; rcases hp with rfl | rfl | rfl; exact g0; exact g1; exact g2) hT rfl
  rw [if_neg c3] at hT
  exact key [(k0, n0), (k1, n1), (k2, n2), (k3, n3)] (by simp) (by simp) (fun p hp => by simp at hp; rcases hp with rfl | rfl | rfl | rfl; exact g0; exact g1; exact g2; exact g3) hT rfl
theorem gap_back (k0 n0 k1 n1 : Int) (hne : gapText k0 n0 k1 n1 ≠ []) :
    ∃ (W : List Tok) (N : Int), Pur F0 55 [S (gapText k0 n0 k1 n1)] [] .no (.ret (.d (.sl 4 (W.map tokRow)))) .no ∧
      Pur F0 14 [.d (.sl 4 (W.map tokRow)), I (Int.ofNat 0)] [] .no (.ret (.tup [.agg [I k0, I n0], .agg [I k1, I n1], I N, I 0])) .no ∧ (!ieq N (isub .i64 ((W.map tokRow).length : Int) (Int.ofNat 1))) = false := by
  have key : ∀ P : List (Int × Int), P ≠ [] → P.length ≤ 2 → (∀ p ∈ P, goodL p.1 p.2 1 = true) → gapText k0 n0 k1 n1 = szText P → gapA (P, (P.length : Int), 0) = .tup [.agg [I k0, I n0], .agg [I k1, I n1], I (P.length : Int), I 0] → ∃ (W : List Tok) (N : Int), Pur F0 55 [S (gapText k0 n0 k1 n1)] [] .no (.ret (.d (.sl 4 (W.map tokRow)))) .no ∧
      Pur F0 14 [.d (.sl 4 (W.map tokRow)), I (Int.ofNat 0)] [] .no (.ret (.tup [.agg [I k0, I n0], .agg [I k1, I n1], I N, I 0])) .no ∧ (!ieq N (isub .i64 ((W.map tokRow).length : Int) (Int.ofNat 1))) = false := fun P hP hl hgP ht hf => by
    obtain ⟨h1, h2, h3⟩ := szs_back P 1 (.inr rfl) 2 hP hl (by decide) hgP
    have hm := gap_ok (szs P 0 ++ [endT (szText P)]) _ (.inr rfl) h2 (Int.ofNat 0)
    rw [show (Int.ofNat 0) = (0 : Int) from rfl, h3, hf] at hm
    refine ⟨szs P 0 ++ [endT (szText P)], (P.length : Int), by rw [ht]; exact h1, hm, ?_⟩
    have e : isub .i64 (((szs P 0 ++ [endT (szText P)]).map tokRow).length : Int) (Int.ofNat 1) = (P.length : Int) := by
      rw [List.length_map, List.length_append, szs_len, ofn, isub64 (by simp <;> omega) (by simp <;> omega)]; simp
    rw [e, show ieq (P.length : Int) (P.length : Int) = true from by rw [ieq_t]]; rfl
  unfold gapText at hne
  by_cases hg : goodL k0 n0 1 = true ∧ goodL k1 n1 1 = true
  case neg => rw [if_neg hg] at hne; exact (hne rfl).elim
  have hT : gapText k0 n0 k1 n1 = if k0 = k1 ∧ n0 = n1 then valText k0 n0 else valText k0 n0 ++ ([32] ++ valText k1 n1) := by unfold gapText; rw [if_pos hg]
  by_cases he : k0 = k1 ∧ n0 = n1
  · rw [if_pos he] at hT
    obtain ⟨rfl, rfl⟩ := he
    exact key [(k0, n0)] (by simp) (by simp) (fun p hp => by rw [List.mem_singleton.1 hp]; exact hg.1) (by rw [hT]; exact (Lib.join_one _ _).symm) rfl
  · rw [if_neg he] at hT
    exact key [(k0, n0), (k1, n1)] (by simp) (by simp) (fun p hp => by simp at hp; rcases hp with rfl | rfl; exact hg.1; exact hg.2) (by rw [hT]; exact (join2 _ _).symm) rfl
/-- A word alone. -/
theorem lex_one (U : List UInt8) (hU : ∀ c ∈ U, innerB c = true ∧ c ≠ 92) (hl : U.length ≤ 64) (c : UInt8) (t : List UInt8) (hct : U = c :: t) (h1 : isDig c = false ∧ c ≠ 43 ∧ c ≠ 45 ∧ c ≠ 46 ∧ letterB c = true ∧ blankB c = false ∧ c ≠ 47) : Lexes U 0 [⟨1, 0, U, []⟩] := by
  have hd : U.drop 0 = c :: t := hct
  have hd' : U.drop 0 = U ++ [] := (List.append_nil U).symm
  have hsk := skN_zero hd h1.2.2.2.2.2.1
  have hid := idS_of hd' (fun c hc => (hU c hc).1) (fun c t e => by cases e)
  refine ⟨Nat.zero_le _, skOk_head hd h1.2.2.2.2.2.1 h1.2.2.2.2.2.2, by rw [hsk, hct]; simp, U.length, Nat.le_refl _, ?_, lexes_end _⟩
  rw [hsk]
  have hw := word_id_ok U 0 U (by omega) (Nat.zero_le _) (fun c hc => (hU c hc).2) (by rw [hd]; exact numP_letter rfl h1.1 h1.2.1 h1.2.2.1 h1.2.2.2.1) (begins_letter hd (fun e => h1.2.2.1 (UInt8.toNat_inj.1 e)) h1.2.2.2.2.1) hid (by rw [hct]; simp) hl
    (by rw [Nat.zero_add, List.getElem?_eq_none (Nat.le_refl _)]; simp)
  rw [Nat.zero_add] at hw
  exact hw
theorem align_back (k set : Int) (hg : alGood k set = true) :
    ∃ W : List Tok, Pur F0 55 [S (alText k)] [] .no (.ret (.d (.sl 4 (W.map tokRow)))) .no ∧ Pur F0 16 [.d (.sl 4 (W.map tokRow)), I (Int.ofNat 0), I set] [] .no (.ret (.tup [I k, I 1, I 0])) .no := by
  obtain ⟨j, hj, rfl⟩ : ∃ j : Nat, j < 9 ∧ k = (j : Int) + 1 := by
    unfold alGood at hg
    rw [decide_eq_true_eq] at hg
    exact ⟨(k - 1).toNat, by omega, by omega⟩
  have hU : (∀ c ∈ alText ((j : Int) + 1), innerB c = true ∧ c ≠ 92) ∧ (alText ((j : Int) + 1)).length ≤ 64 ∧ ∃ c t, alText ((j : Int) + 1) = c :: t ∧ (isDig c = false ∧ c ≠ 43 ∧ c ≠ 45 ∧ c ≠ 46 ∧ letterB c = true ∧ blankB c = false ∧ c ≠ 47) := by
    have : j = 0 ∨ j = 1 ∨ j = 2 ∨ j = 3 ∨ j = 4 ∨ j = 5 ∨ j = 6 ∨ j = 7 ∨ j = 8 := by omega
    rcases this with rfl | rfl | rfl | rfl | rfl | rfl | rfl | rfl | rfl <;> exact ⟨by decide, by decide, _, _, rfl, by decide⟩
  obtain ⟨hc, hl, c, t, hct, h1⟩ := hU
  have hlx := lex_one _ hc hl c t hct h1
  have hlow := (al_low j hj).1
  have hhit := al_hit (s := alText ((j : Int) + 1)) hj hlow
  have hw := words9_ok _ _ (by omega) hlx (by simp)
  have hal := align_ok ([⟨1, 0, alText ((j : Int) + 1), []⟩] ++ [endT (alText ((j : Int) + 1))]) _ (.inr rfl) (fun t ht => by
    rcases List.mem_append.1 ht with ht | ht
    · rw [List.mem_singleton.1 ht]; exact ⟨by simp only; omega, by simp⟩
    · rw [List.mem_singleton.1 ht]; exact endT_ok _) (Int.ofNat 0) set
  refine ⟨_, hw, ?_⟩
  have hS : alS (wordS ([⟨1, 0, alText ((j : Int) + 1), []⟩] ++ [endT (alText ((j : Int) + 1))]) (Int.ofNat 0)) (Int.ofNat 0) set = ((j : Int) + 1, 1, 0) := by
    have hw0 : wordS ([⟨1, 0, alText ((j : Int) + 1), []⟩] ++ [endT (alText ((j : Int) + 1))]) (Int.ofNat 0) = ⟨1, 0, alText ((j : Int) + 1), []⟩ := rfl
    have hk : kwS ⟨1, 0, alText ((j : Int) + 1), []⟩ alWs = (j : Int) := by unfold kwS; rw [if_pos rfl]; exact hhit
    rw [hw0]
    unfold alS
    rw [hk, if_pos ⟨by omega, hg⟩, ofn, iadd64 (by decide) (by decide)]; rfl
  rw [hS] at hal
  exact hal
theorem none_back (d : DV) (hd : linesA [] d) : ∃ W : List Tok, Pur F0 55 [S [110, 111, 110, 101]] [] .no (.ret (.d (.sl 4 (W.map tokRow)))) .no ∧ Pur F0 56 [.d (.sl 4 (W.map tokRow)), I (Int.ofNat 0)] [] .no (.ret (.tup [.d .nilsl, I 1, I 0])) .no ∧ W.length = 2 := by
  have hlx := lex_one [110, 111, 110, 101] (by decide) (by decide) 110 _ rfl (by decide)
  have hw := words9_ok _ _ (by decide) hlx (by simp)
  have hk := keyword_ok ([⟨1, 0, [110, 111, 110, 101], []⟩] ++ [endT [110, 111, 110, 101]]) _ (.inr rfl) (fun t ht => by
    rcases List.mem_append.1 ht with ht | ht
    · rw [List.mem_singleton.1 ht]; exact ⟨by decide, by decide⟩
    · rw [List.mem_singleton.1 ht]; exact endT_ok _) (Int.ofNat 0) [[110, 111, 110, 101]] (by decide) (by decide)
  refine ⟨_, hw, ?_, rfl⟩
  have hkA : kwA (wordS ([⟨1, 0, [110, 111, 110, 101], []⟩] ++ [endT [110, 111, 110, 101]]) (Int.ofNat 0)) [[110, 111, 110, 101]] (Int.ofNat 0) = .tup [I 0, I 1] := by
    have hw0 : wordS ([⟨1, 0, [110, 111, 110, 101], []⟩] ++ [endT [110, 111, 110, 101]]) (Int.ofNat 0) = ⟨1, 0, [110, 111, 110, 101], []⟩ := rfl
    have hf : kwFrom [110, 111, 110, 101] [[110, 111, 110, 101]] 0 = ((0 : Nat) : Int) := by decide
    rw [hw0, kwA_hit (i := 0) _ rfl hf, ofn, iadd64 (by decide) (by decide)]; rfl
  rw [hkA] at hk
  have z1 : ieq (0 : Int) (Int.ofNat 0) = true := by rw [ieq_t]; rfl
  generalize [⟨1, 0, [110, 111, 110, 101], []⟩] ++ [endT [110, 111, 110, 101]] = W at *
  refine pur_code code56_ok ?_
  conv => whnf
  repeat' (first
    | (refine vb_t rfl ?_; conv => whnf)
    | (refine vb_f rfl ?_; conv => whnf)
    | (refine vb_t (by assumption) ?_; conv => whnf)
    | (refine vb_f (by assumption) ?_; conv => whnf)
    | (refine vpur_i hk ?_; conv => whnf)
    | fail)
  exact ⟨rfl, rfl⟩
end Go.Proofs.YtapnjabhcdlhbaaGreatDoor.Ab
namespace Go.Proofs.YtapnjabhcdlhbaaGreatDoor.Ab
open Go
set_option linter.unusedSimpArgs false
set_option maxRecDepth 100000
set_option linter.unusedVariables false
set_option maxHeartbeats 4000000
theorem px_len {n : Int} (h : sideOk n = true) : (pxText n).length ≤ 30 := by
  have hp : isPx n = true := by
    unfold sideOk at h
    simp only [Bool.and_eq_true, decide_eq_true_eq] at h
    unfold isPx
    simp only [Bool.and_eq_true, decide_eq_true_eq]; omega
  have := numText_le n 64 (by decide) hp
  unfold pxText
  rw [List.length_append]
  have e : (numText n 64).length ≤ 28 := this
  simp; omega
theorem itText_len : ∀ R : List It, itsOk R → (itText R).length ≤ R.length * 64
  | [], _ => Nat.le_refl _
  | (b, sp) :: R, h => by
    have ih := itText_len R fun x hx => h x (List.mem_cons_of_mem _ hx)
    obtain ⟨h1, h2⟩ := h (b, sp) (List.mem_cons_self ..)
    have l1 : (pxText b.1).length ≤ 30 := px_len h1
    have l2 : (pxText b.2).length ≤ 30 := px_len h2
    have l3 : (sepT sp).length ≤ 3 := by unfold sepT; (repeat' split) <;> simp
    show (boxText b ++ (sepT sp ++ itText R)).length ≤ _
    unfold boxText
    simp only [List.length_append, List.length_cons, List.length_nil]
    omega
theorem px_92 {n : Int} (h : sideOk n = true) : ∀ c ∈ pxText n, c ≠ 92 := by
  obtain ⟨g1, _, t1⟩ := side_good h
  rw [← t1]; exact valText_92 g1
theorem itText_92 : ∀ R : List It, itsOk R → ∀ c ∈ itText R, c ≠ 92
  | [], _, c, h => by cases h
  | (b, sp) :: R, hok, c, h => by
    have ih := itText_92 R fun x hx => hok x (List.mem_cons_of_mem _ hx)
    obtain ⟨h1, h2⟩ := hok (b, sp) (List.mem_cons_self ..)
    have hsep : ∀ c ∈ sepT sp, c ≠ 92 := by
      unfold sepT
      (repeat' split) <;> decide
    rcases List.mem_append.1 h with h | h
    · unfold boxText at h
      rcases List.mem_append.1 h with h | h
      · rcases List.mem_append.1 h with h | h
        · exact px_92 h1 c h
        · rw [List.mem_singleton.1 h]; decide
      · exact px_92 h2 c h
    · rcases List.mem_append.1 h with h | h
      · exact hsep c h
      · exact ih c h
theorem good_boxN : ∀ (w : List Ln) (n : Nat), n ≤ 256 → goodFrom n w = true → n + boxN (w.map (·.2)) ≤ 256
  | [], n, hn, _ => hn
  | y :: r, n, hn, h => by
    simp only [goodFrom, Bool.and_eq_true, decide_eq_true_eq, Bool.not_eq_true'] at h
    obtain ⟨⟨⟨h1, h2⟩, h3⟩, h4⟩ := h
    have := good_boxN r _ h2 h4
    show n + (y.2.length + boxN (r.map (·.2))) ≤ 256
    omega
theorem itToks_len : ∀ (R : List It) (i : Nat), valid R → (itToks R i).length ≤ 3 * R.length
  | [], i, h => h.elim
  | (b, none) :: R, i, hv => by
    show 2 ≤ 3 * (R.length + 1); omega
  | (b, some c) :: R, i, hv => by
    have hvR : (c = 44 ∨ c = 47) ∧ valid R := by
      cases R with
      | nil => cases hv
      | cons q R => exact ⟨by rcases hv.1 with h | h; exact .inl (Option.some.inj h); exact .inr (Option.some.inj h), hv.2⟩
    rcases hvR.1 with rfl | rfl
    · have := itToks_len R (i + (pxText b.1).length + 1 + (pxText b.2).length + 2) hvR.2
      show (itToks R _).length + 1 + 1 + 1 ≤ 3 * (R.length + 1); omega
    · have := itToks_len R (i + (pxText b.1).length + 1 + (pxText b.2).length + 3) hvR.2
      show (itToks R _).length + 1 + 1 + 1 ≤ 3 * (R.length + 1); omega
theorem content_back (w : List Ln) (d : DV) (hd : linesA w d) (hne : w ≠ []) (hg : goodFrom 0 w = true) :
    ∃ (W : List Tok) (N : Int) (v : DV), Pur F0 55 [S (wordsText w)] [] .no (.ret (.d (.sl 4 (W.map tokRow)))) .no ∧
      Pur F0 56 [.d (.sl 4 (W.map tokRow)), I (Int.ofNat 0)] [] .no (.ret (.tup [.d v, I N, I 0])) .no ∧ ieq N (isub .i64 ((W.map tokRow).length : Int) (Int.ofNat 1)) = true ∧
      Pur F0 43 [.d v, .d d] [] .no (.ret (B true)) .no := by
  have hw0 : w.map (·.2) ≠ [] := by simpa using hne
  have hall := good_all w 0 hg
  have hlne : ∀ l ∈ w.map (·.2), l ≠ [] := fun l hl => by
    obtain ⟨x, hx, rfl⟩ := List.mem_map.1 hl
    exact (hall x hx).2
  have hN := good_boxN w 0 (by decide) hg
  rw [Nat.zero_add] at hN
  have hsides : itsOk (items (w.map (·.2))) := fun x hx => by
    obtain ⟨l, hl, hm⟩ := items_mem _ x hx
    obtain ⟨y, hy, rfl⟩ := List.mem_map.1 hl
    exact boxes_all _ (good_sides w 0 hg y hy) _ hm
  have hv := valid_items _ hw0 hlne
  have hgr := grp_items (w.map (·.2)) [] hw0 hlne
  rw [List.nil_append] at hgr
  have hT : wordsText w = itText (items (w.map (·.2))) := by
    rw [items_text _ hlne]
    unfold wordsText
    rw [if_neg hne, if_pos hg, List.map_map]
    rfl
  have hil : (items (w.map (·.2))).length ≤ 256 := by rw [items_len]; exact hN
  have htl := itText_len _ hsides
  have h92 := itText_92 _ hsides
  obtain ⟨its, hits⟩ : ∃ its, items (w.map (·.2)) = its := ⟨_, rfl⟩
  rw [hits] at hsides hv hgr hT hil htl h92
  have hlx := lex_items (itText its) (by omega) h92 its 0 hv hsides (Nat.zero_le _) rfl
  have hkl := itToks_len its 0 hv
  have h1 := words9_ok _ _ (by omega) hlx (by omega)
  have h2 := readItems_ok its (itText its) _ hv hsides hgr hil
  have hA : linesA ((w.map (·.2)).map fun l => ((.sl 2 (l.map bxRow), l) : Ln)) (.sl 1 ((w.map (·.2)).map lineRow)) := by
    refine ⟨fun x hx => ?_, ?_, .inr ?_⟩
    · obtain ⟨l, hl, rfl⟩ := List.mem_map.1 hx
      obtain ⟨y, hy, rfl⟩ := List.mem_map.1 hl
      exact ⟨.inr rfl, by have := (hall y hy).1; show y.2.length ≤ _; omega⟩
    · rw [List.length_map, List.length_map]; exact hd.2.1
    · have e : ((w.map (·.2)).map fun l => ((.sl 2 (l.map bxRow), l) : Ln)).map lnRow = (w.map (·.2)).map lineRow := by rw [List.map_map]; rfl
      rw [e]
  have h3 := same_ok _ d _ w hA hd
  have hs : sameLn ((w.map (·.2)).map fun l => ((.sl 2 (l.map bxRow), l) : Ln)) w = true := by
    unfold sameLn
    rw [decide_eq_true_eq, List.map_map]
    have : ((fun x : Ln => x.2) ∘ fun l : List Bx => ((.sl 2 (l.map bxRow), l) : Ln)) = id := rfl
    rw [this, List.map_id]
  rw [hs] at h3
  refine ⟨_, _, _, by rw [hT]; exact h1, h2, ?_, h3⟩
  rw [ieq_t, List.length_map, List.length_append, ofn, isub64 (by simp <;> omega) (by simp <;> omega)]
  simp
theorem boxBack_ok (k0 n0 k1 n1 k2 n2 k3 n3 p0 q0 p1 q1 k set : Int) (w : List Ln) (d : DV) (hd : linesA w d) :
    Pur F0 9 [.agg [I k0, I n0, I k1, I n1, I k2, I n2, I k3, I n3], .agg [I p0, I q0], .agg [I p1, I q1], I k, I set, .d d] [] .no (.ret (B true)) .no := by
  have mg := mgood_ok k0 n0 k1 n1 k2 n2 k3 n3
  have mt := mText_ok k0 n0 k1 n1 k2 n2 k3 n3
  have gt := gapText_ok p0 q0 p1 q1
  have ag := alGood_ok k set
  have atx := alText_ok k
  obtain ⟨lbv, lb⟩ := light_ok w d hd
  have wg := wgood_ok w d hd
  have wt := wtext_ok w d hd
  have hm := margin_back k0 n0 k1 n1 k2 n2 k3 n3
  have hgp := gap_back p0 q0 p1 q1
  have hal := align_back k set
  have hc : goodFrom 0 w = true → ∃ (W : List Tok) (N : Int) (v : DV), Pur F0 55 [S (wordsText w)] [] .no (.ret (.d (.sl 4 (W.map tokRow)))) .no ∧
      Pur F0 56 [.d (.sl 4 (W.map tokRow)), I (Int.ofNat 0)] [] .no (.ret (.tup [.d v, I N, I 0])) .no ∧ ieq N (isub .i64 ((W.map tokRow).length : Int) (Int.ofNat 1)) = true ∧
      Pur F0 43 [.d v, .d d] [] .no (.ret (B true)) .no := fun hg => by
    by_cases hw : w = []
    · subst hw
      obtain ⟨W, h1, h2, h3⟩ := none_back d hd
      have hs := same_ok .nilsl d [] [] ⟨fun x h => (by cases h), Nat.zero_le _, .inl ⟨rfl, rfl⟩⟩ hd
      refine ⟨W, 1, .nilsl, h1, h2, ?_, hs⟩
      rw [ieq_t, List.length_map, h3, ofn, isub64 (by decide) (by decide)]; rfl
    · exact content_back w d hd hw hg
  generalize (goodL k0 n0 7 && goodL k1 n1 7 && goodL k2 n2 7 && goodL k3 n3 7) = gm at *
  generalize mText k0 n0 k1 n1 k2 n2 k3 n3 = tm at *
  generalize gapText p0 q0 p1 q1 = tg at *
  generalize alGood k set = ga at *
  generalize alText k = ta at *
  generalize goodFrom 0 w = gw at *
  generalize wordsText w = tw at *
  have z0 : ieq (0 : Int) (Int.ofNat 0) = true := by rw [ieq_t]; rfl
  have z2 : (!ieq (0 : Int) (Int.ofNat 0)) = false := by rw [z0]; rfl
  have z3 : (!ieq (1 : Int) (Int.ofNat 1)) = false := by rw [show ieq (1 : Int) (Int.ofNat 1) = true from by rw [ieq_t]; rfl]; rfl
  have sk := ieq_self k
  have z4 : (!ieq k k) = false := by rw [sk]; rfl
  have E8 : (!(ieq k0 k0 && (ieq n0 n0 && (ieq k1 k1 && (ieq n1 n1 && (ieq k2 k2 && (ieq n2 n2 && (ieq k3 k3 && ieq n3 n3)))))))) = false := by simp [ieq_self]
  have E2 : (!(ieq p0 p0 && ieq q0 q0)) = false := by simp [ieq_self]
  have E3 : (!(ieq p1 p1 && ieq q1 q1)) = false := by simp [ieq_self]
  have hA : gm = false ∨ gm = true := by cases gm <;> simp
  have hG : (!seq tg []) = false ∨ (!seq tg []) = true := by cases seq tg [] <;> simp
  have hGt : (!seq tg []) = true → tg ≠ [] := fun h e => by
    rw [show seq tg [] = true from by rw [seq_t]; exact e] at h; cases h
  refine pur_code code9_ok ?_
  conv => whnf
  have fin : ∀ (X : Prop), (lbv = false → X) → (lbv = true → gw = false → X) → (lbv = true → gw = true → X) → X := fun X a b c => by
    cases lbv
    · exact a rfl
    · cases gw
      · exact b rfl rfl
      · exact c rfl rfl
  cases gm
  · rcases hG with hG | hG
    · cases ga
      · refine fin _ (fun e => ?_) (fun e1 e2 => ?_) (fun e1 e2 => ?_)
        · subst e
          repeat' (first
            | (refine vb_t rfl ?_; conv => whnf)
            | (refine vb_f rfl ?_; conv => whnf)
            | (refine vb_t (by assumption) ?_; conv => whnf)
            | (refine vb_f (by assumption) ?_; conv => whnf)
            | (rw [E8]; conv => whnf)
            | (rw [E2]; conv => whnf)
            | (rw [E3]; conv => whnf)
            | (refine vpur_i mg ?_; conv => whnf)
            | (refine vpur_i mt ?_; conv => whnf)
            | (refine vpur_i gt ?_; conv => whnf)
            | (refine vpur_i ag ?_; conv => whnf)
            | (refine vpur_i atx ?_; conv => whnf)
            | (refine vpur_i (by assumption) ?_; conv => whnf)
            | (refine vpur_i lb ?_; conv => whnf)
            | (refine vpur_i lives09_ok ?_; conv => whnf)
            | fail)
          exact ⟨rfl, rfl⟩
        · subst e1 e2
          repeat' (first
            | (refine vb_t rfl ?_; conv => whnf)
            | (refine vb_f rfl ?_; conv => whnf)
            | (refine vb_t (by assumption) ?_; conv => whnf)
            | (refine vb_f (by assumption) ?_; conv => whnf)
            | (rw [E8]; conv => whnf)
            | (rw [E2]; conv => whnf)
            | (rw [E3]; conv => whnf)
            | (refine vpur_i mg ?_; conv => whnf)
            | (refine vpur_i mt ?_; conv => whnf)
            | (refine vpur_i gt ?_; conv => whnf)
            | (refine vpur_i ag ?_; conv => whnf)
            | (refine vpur_i atx ?_; conv => whnf)
            | (refine vpur_i (by assumption) ?_; conv => whnf)
            | (refine vpur_i lb ?_; conv => whnf)
            | (refine vpur_i wg ?_; conv => whnf)
            | (refine vpur_i lives09_ok ?_; conv => whnf)
            | fail)
          exact ⟨rfl, rfl⟩
        · subst e1 e2
          obtain ⟨W, N, v, T1, T2, T3, T4⟩ := hc rfl
          repeat' (first
            | (refine vb_t rfl ?_; conv => whnf)
            | (refine vb_f rfl ?_; conv => whnf)
            | (refine vb_t (by assumption) ?_; conv => whnf)
            | (refine vb_f (by assumption) ?_; conv => whnf)
            | (rw [E8]; conv => whnf)
            | (rw [E2]; conv => whnf)
            | (rw [E3]; conv => whnf)
            | (refine vpur_i mg ?_; conv => whnf)
            | (refine vpur_i mt ?_; conv => whnf)
            | (refine vpur_i gt ?_; conv => whnf)
            | (refine vpur_i ag ?_; conv => whnf)
            | (refine vpur_i atx ?_; conv => whnf)
            | (refine vpur_i (by assumption) ?_; conv => whnf)
            | (refine vpur_i lb ?_; conv => whnf)
            | (refine vpur_i wg ?_; conv => whnf)
            | (refine vpur_i wt ?_; conv => whnf)
            | (refine vpur_i lives09_ok ?_; conv => whnf)
            | fail)
          exact ⟨rfl, rfl⟩
      · obtain ⟨W3, L1, L2⟩ := hal rfl
        refine fin _ (fun e => ?_) (fun e1 e2 => ?_) (fun e1 e2 => ?_)
        · subst e
          repeat' (first
            | (refine vb_t rfl ?_; conv => whnf)
            | (refine vb_f rfl ?_; conv => whnf)
            | (refine vb_t (by assumption) ?_; conv => whnf)
            | (refine vb_f (by assumption) ?_; conv => whnf)
            | (rw [E8]; conv => whnf)
            | (rw [E2]; conv => whnf)
            | (rw [E3]; conv => whnf)
            | (refine vpur_i mg ?_; conv => whnf)
            | (refine vpur_i mt ?_; conv => whnf)
            | (refine vpur_i gt ?_; conv => whnf)
            | (refine vpur_i ag ?_; conv => whnf)
            | (refine vpur_i atx ?_; conv => whnf)
            | (refine vpur_i (by assumption) ?_; conv => whnf)
            | (refine vpur_i lb ?_; conv => whnf)
            | (refine vpur_i lives09_ok ?_; conv => whnf)
            | fail)
          exact ⟨rfl, rfl⟩
        · subst e1 e2
          repeat' (first
            | (refine vb_t rfl ?_; conv => whnf)
            | (refine vb_f rfl ?_; conv => whnf)
            | (refine vb_t (by assumption) ?_; conv => whnf)
            | (refine vb_f (by assumption) ?_; conv => whnf)
            | (rw [E8]; conv => whnf)
            | (rw [E2]; conv => whnf)
            | (rw [E3]; conv => whnf)
            | (refine vpur_i mg ?_; conv => whnf)
            | (refine vpur_i mt ?_; conv => whnf)
            | (refine vpur_i gt ?_; conv => whnf)
            | (refine vpur_i ag ?_; conv => whnf)
            | (refine vpur_i atx ?_; conv => whnf)
            | (refine vpur_i (by assumption) ?_; conv => whnf)
            | (refine vpur_i lb ?_; conv => whnf)
            | (refine vpur_i wg ?_; conv => whnf)
            | (refine vpur_i lives09_ok ?_; conv => whnf)
            | fail)
          exact ⟨rfl, rfl⟩
        · subst e1 e2
          obtain ⟨W, N, v, T1, T2, T3, T4⟩ := hc rfl
          repeat' (first
            | (refine vb_t rfl ?_; conv => whnf)
            | (refine vb_f rfl ?_; conv => whnf)
            | (refine vb_t (by assumption) ?_; conv => whnf)
            | (refine vb_f (by assumption) ?_; conv => whnf)
            | (rw [E8]; conv => whnf)
            | (rw [E2]; conv => whnf)
            | (rw [E3]; conv => whnf)
            | (refine vpur_i mg ?_; conv => whnf)
            | (refine vpur_i mt ?_; conv => whnf)
            | (refine vpur_i gt ?_; conv => whnf)
            | (refine vpur_i ag ?_; conv => whnf)
            | (refine vpur_i atx ?_; conv => whnf)
            | (refine vpur_i (by assumption) ?_; conv => whnf)
            | (refine vpur_i lb ?_; conv => whnf)
            | (refine vpur_i wg ?_; conv => whnf)
            | (refine vpur_i wt ?_; conv => whnf)
            | (refine vpur_i lives09_ok ?_; conv => whnf)
            | fail)
          exact ⟨rfl, rfl⟩
    · obtain ⟨W2, N2, G1, G2, G3⟩ := hgp (hGt hG)
      cases ga
      · refine fin _ (fun e => ?_) (fun e1 e2 => ?_) (fun e1 e2 => ?_)
        · subst e
          repeat' (first
            | (refine vb_t rfl ?_; conv => whnf)
            | (refine vb_f rfl ?_; conv => whnf)
            | (refine vb_t (by assumption) ?_; conv => whnf)
            | (refine vb_f (by assumption) ?_; conv => whnf)
            | (rw [E8]; conv => whnf)
            | (rw [E2]; conv => whnf)
            | (rw [E3]; conv => whnf)
            | (refine vpur_i mg ?_; conv => whnf)
            | (refine vpur_i mt ?_; conv => whnf)
            | (refine vpur_i gt ?_; conv => whnf)
            | (refine vpur_i ag ?_; conv => whnf)
            | (refine vpur_i atx ?_; conv => whnf)
            | (refine vpur_i (by assumption) ?_; conv => whnf)
            | (refine vpur_i lb ?_; conv => whnf)
            | (refine vpur_i lives09_ok ?_; conv => whnf)
            | fail)
          exact ⟨rfl, rfl⟩
        · subst e1 e2
          repeat' (first
            | (refine vb_t rfl ?_; conv => whnf)
            | (refine vb_f rfl ?_; conv => whnf)
            | (refine vb_t (by assumption) ?_; conv => whnf)
            | (refine vb_f (by assumption) ?_; conv => whnf)
            | (rw [E8]; conv => whnf)
            | (rw [E2]; conv => whnf)
            | (rw [E3]; conv => whnf)
            | (refine vpur_i mg ?_; conv => whnf)
            | (refine vpur_i mt ?_; conv => whnf)
            | (refine vpur_i gt ?_; conv => whnf)
            | (refine vpur_i ag ?_; conv => whnf)
            | (refine vpur_i atx ?_; conv => whnf)
            | (refine vpur_i (by assumption) ?_; conv => whnf)
            | (refine vpur_i lb ?_; conv => whnf)
            | (refine vpur_i wg ?_; conv => whnf)
            | (refine vpur_i lives09_ok ?_; conv => whnf)
            | fail)
          exact ⟨rfl, rfl⟩
        · subst e1 e2
          obtain ⟨W, N, v, T1, T2, T3, T4⟩ := hc rfl
          repeat' (first
            | (refine vb_t rfl ?_; conv => whnf)
            | (refine vb_f rfl ?_; conv => whnf)
            | (refine vb_t (by assumption) ?_; conv => whnf)
            | (refine vb_f (by assumption) ?_; conv => whnf)
            | (rw [E8]; conv => whnf)
            | (rw [E2]; conv => whnf)
            | (rw [E3]; conv => whnf)
            | (refine vpur_i mg ?_; conv => whnf)
            | (refine vpur_i mt ?_; conv => whnf)
            | (refine vpur_i gt ?_; conv => whnf)
            | (refine vpur_i ag ?_; conv => whnf)
            | (refine vpur_i atx ?_; conv => whnf)
            | (refine vpur_i (by assumption) ?_; conv => whnf)
            | (refine vpur_i lb ?_; conv => whnf)
            | (refine vpur_i wg ?_; conv => whnf)
            | (refine vpur_i wt ?_; conv => whnf)
            | (refine vpur_i lives09_ok ?_; conv => whnf)
            | fail)
          exact ⟨rfl, rfl⟩
      · obtain ⟨W3, L1, L2⟩ := hal rfl
        refine fin _ (fun e => ?_) (fun e1 e2 => ?_) (fun e1 e2 => ?_)
        · subst e
          repeat' (first
            | (refine vb_t rfl ?_; conv => whnf)
            | (refine vb_f rfl ?_; conv => whnf)
            | (refine vb_t (by assumption) ?_; conv => whnf)
            | (refine vb_f (by assumption) ?_; conv => whnf)
            | (rw [E8]; conv => whnf)
            | (rw [E2]; conv => whnf)
            | (rw [E3]; conv => whnf)
            | (refine vpur_i mg ?_; conv => whnf)
            | (refine vpur_i mt ?_; conv => whnf)
            | (refine vpur_i gt ?_; conv => whnf)
            | (refine vpur_i ag ?_; conv => whnf)
            | (refine vpur_i atx ?_; conv => whnf)
            | (refine vpur_i (by assumption) ?_; conv => whnf)
            | (refine vpur_i lb ?_; conv => whnf)
            | (refine vpur_i lives09_ok ?_; conv => whnf)
            | fail)
          exact ⟨rfl, rfl⟩
        · subst e1 e2
          repeat' (first
            | (refine vb_t rfl ?_; conv => whnf)
            | (refine vb_f rfl ?_; conv => whnf)
            | (refine vb_t (by assumption) ?_; conv => whnf)
            | (refine vb_f (by assumption) ?_; conv => whnf)
            | (rw [E8]; conv => whnf)
            | (rw [E2]; conv => whnf)
            | (rw [E3]; conv => whnf)
            | (refine vpur_i mg ?_; conv => whnf)
            | (refine vpur_i mt ?_; conv => whnf)
            | (refine vpur_i gt ?_; conv => whnf)
            | (refine vpur_i ag ?_; conv => whnf)
            | (refine vpur_i atx ?_; conv => whnf)
            | (refine vpur_i (by assumption) ?_; conv => whnf)
            | (refine vpur_i lb ?_; conv => whnf)
            | (refine vpur_i wg ?_; conv => whnf)
            | (refine vpur_i lives09_ok ?_; conv => whnf)
            | fail)
          exact ⟨rfl, rfl⟩
        · subst e1 e2
          obtain ⟨W, N, v, T1, T2, T3, T4⟩ := hc rfl
          repeat' (first
            | (refine vb_t rfl ?_; conv => whnf)
            | (refine vb_f rfl ?_; conv => whnf)
            | (refine vb_t (by assumption) ?_; conv => whnf)
            | (refine vb_f (by assumption) ?_; conv => whnf)
            | (rw [E8]; conv => whnf)
            | (rw [E2]; conv => whnf)
            | (rw [E3]; conv => whnf)
            | (refine vpur_i mg ?_; conv => whnf)
            | (refine vpur_i mt ?_; conv => whnf)
            | (refine vpur_i gt ?_; conv => whnf)
            | (refine vpur_i ag ?_; conv => whnf)
            | (refine vpur_i atx ?_; conv => whnf)
            | (refine vpur_i (by assumption) ?_; conv => whnf)
            | (refine vpur_i lb ?_; conv => whnf)
            | (refine vpur_i wg ?_; conv => whnf)
            | (refine vpur_i wt ?_; conv => whnf)
            | (refine vpur_i lives09_ok ?_; conv => whnf)
            | fail)
          exact ⟨rfl, rfl⟩
  · obtain ⟨W1, N1, A1, A2, A3⟩ := hm rfl
    rcases hG with hG | hG
    · cases ga
      · refine fin _ (fun e => ?_) (fun e1 e2 => ?_) (fun e1 e2 => ?_)
        · subst e
          repeat' (first
            | (refine vb_t rfl ?_; conv => whnf)
            | (refine vb_f rfl ?_; conv => whnf)
            | (refine vb_t (by assumption) ?_; conv => whnf)
            | (refine vb_f (by assumption) ?_; conv => whnf)
            | (rw [E8]; conv => whnf)
            | (rw [E2]; conv => whnf)
            | (rw [E3]; conv => whnf)
            | (refine vpur_i mg ?_; conv => whnf)
            | (refine vpur_i mt ?_; conv => whnf)
            | (refine vpur_i gt ?_; conv => whnf)
            | (refine vpur_i ag ?_; conv => whnf)
            | (refine vpur_i atx ?_; conv => whnf)
            | (refine vpur_i (by assumption) ?_; conv => whnf)
            | (refine vpur_i lb ?_; conv => whnf)
            | (refine vpur_i lives09_ok ?_; conv => whnf)
            | fail)
          exact ⟨rfl, rfl⟩
        · subst e1 e2
          repeat' (first
            | (refine vb_t rfl ?_; conv => whnf)
            | (refine vb_f rfl ?_; conv => whnf)
            | (refine vb_t (by assumption) ?_; conv => whnf)
            | (refine vb_f (by assumption) ?_; conv => whnf)
            | (rw [E8]; conv => whnf)
            | (rw [E2]; conv => whnf)
            | (rw [E3]; conv => whnf)
            | (refine vpur_i mg ?_; conv => whnf)
            | (refine vpur_i mt ?_; conv => whnf)
            | (refine vpur_i gt ?_; conv => whnf)
            | (refine vpur_i ag ?_; conv => whnf)
            | (refine vpur_i atx ?_; conv => whnf)
            | (refine vpur_i (by assumption) ?_; conv => whnf)
            | (refine vpur_i lb ?_; conv => whnf)
            | (refine vpur_i wg ?_; conv => whnf)
            | (refine vpur_i lives09_ok ?_; conv => whnf)
            | fail)
          exact ⟨rfl, rfl⟩
        · subst e1 e2
          obtain ⟨W, N, v, T1, T2, T3, T4⟩ := hc rfl
          repeat' (first
            | (refine vb_t rfl ?_; conv => whnf)
            | (refine vb_f rfl ?_; conv => whnf)
            | (refine vb_t (by assumption) ?_; conv => whnf)
            | (refine vb_f (by assumption) ?_; conv => whnf)
            | (rw [E8]; conv => whnf)
            | (rw [E2]; conv => whnf)
            | (rw [E3]; conv => whnf)
            | (refine vpur_i mg ?_; conv => whnf)
            | (refine vpur_i mt ?_; conv => whnf)
            | (refine vpur_i gt ?_; conv => whnf)
            | (refine vpur_i ag ?_; conv => whnf)
            | (refine vpur_i atx ?_; conv => whnf)
            | (refine vpur_i (by assumption) ?_; conv => whnf)
            | (refine vpur_i lb ?_; conv => whnf)
            | (refine vpur_i wg ?_; conv => whnf)
            | (refine vpur_i wt ?_; conv => whnf)
            | (refine vpur_i lives09_ok ?_; conv => whnf)
            | fail)
          exact ⟨rfl, rfl⟩
      · obtain ⟨W3, L1, L2⟩ := hal rfl
        refine fin _ (fun e => ?_) (fun e1 e2 => ?_) (fun e1 e2 => ?_)
        · subst e
          repeat' (first
            | (refine vb_t rfl ?_; conv => whnf)
            | (refine vb_f rfl ?_; conv => whnf)
            | (refine vb_t (by assumption) ?_; conv => whnf)
            | (refine vb_f (by assumption) ?_; conv => whnf)
            | (rw [E8]; conv => whnf)
            | (rw [E2]; conv => whnf)
            | (rw [E3]; conv => whnf)
            | (refine vpur_i mg ?_; conv => whnf)
            | (refine vpur_i mt ?_; conv => whnf)
            | (refine vpur_i gt ?_; conv => whnf)
            | (refine vpur_i ag ?_; conv => whnf)
            | (refine vpur_i atx ?_; conv => whnf)
            | (refine vpur_i (by assumption) ?_; conv => whnf)
            | (refine vpur_i lb ?_; conv => whnf)
            | (refine vpur_i lives09_ok ?_; conv => whnf)
            | fail)
          exact ⟨rfl, rfl⟩
        · subst e1 e2
          repeat' (first
            | (refine vb_t rfl ?_; conv => whnf)
            | (refine vb_f rfl ?_; conv => whnf)
            | (refine vb_t (by assumption) ?_; conv => whnf)
            | (refine vb_f (by assumption) ?_; conv => whnf)
            | (rw [E8]; conv => whnf)
            | (rw [E2]; conv => whnf)
            | (rw [E3]; conv => whnf)
            | (refine vpur_i mg ?_; conv => whnf)
            | (refine vpur_i mt ?_; conv => whnf)
            | (refine vpur_i gt ?_; conv => whnf)
            | (refine vpur_i ag ?_; conv => whnf)
            | (refine vpur_i atx ?_; conv => whnf)
            | (refine vpur_i (by assumption) ?_; conv => whnf)
            | (refine vpur_i lb ?_; conv => whnf)
            | (refine vpur_i wg ?_; conv => whnf)
            | (refine vpur_i lives09_ok ?_; conv => whnf)
            | fail)
          exact ⟨rfl, rfl⟩
        · subst e1 e2
          obtain ⟨W, N, v, T1, T2, T3, T4⟩ := hc rfl
          repeat' (first
            | (refine vb_t rfl ?_; conv => whnf)
            | (refine vb_f rfl ?_; conv => whnf)
            | (refine vb_t (by assumption) ?_; conv => whnf)
            | (refine vb_f (by assumption) ?_; conv => whnf)
            | (rw [E8]; conv => whnf)
            | (rw [E2]; conv => whnf)
            | (rw [E3]; conv => whnf)
            | (refine vpur_i mg ?_; conv => whnf)
            | (refine vpur_i mt ?_; conv => whnf)
            | (refine vpur_i gt ?_; conv => whnf)
            | (refine vpur_i ag ?_; conv => whnf)
            | (refine vpur_i atx ?_; conv => whnf)
            | (refine vpur_i (by assumption) ?_; conv => whnf)
            | (refine vpur_i lb ?_; conv => whnf)
            | (refine vpur_i wg ?_; conv => whnf)
            | (refine vpur_i wt ?_; conv => whnf)
            | (refine vpur_i lives09_ok ?_; conv => whnf)
            | fail)
          exact ⟨rfl, rfl⟩
    · obtain ⟨W2, N2, G1, G2, G3⟩ := hgp (hGt hG)
      cases ga
      · refine fin _ (fun e => ?_) (fun e1 e2 => ?_) (fun e1 e2 => ?_)
        · subst e
          repeat' (first
            | (refine vb_t rfl ?_; conv => whnf)
            | (refine vb_f rfl ?_; conv => whnf)
            | (refine vb_t (by assumption) ?_; conv => whnf)
            | (refine vb_f (by assumption) ?_; conv => whnf)
            | (rw [E8]; conv => whnf)
            | (rw [E2]; conv => whnf)
            | (rw [E3]; conv => whnf)
            | (refine vpur_i mg ?_; conv => whnf)
            | (refine vpur_i mt ?_; conv => whnf)
            | (refine vpur_i gt ?_; conv => whnf)
            | (refine vpur_i ag ?_; conv => whnf)
            | (refine vpur_i atx ?_; conv => whnf)
            | (refine vpur_i (by assumption) ?_; conv => whnf)
            | (refine vpur_i lb ?_; conv => whnf)
            | (refine vpur_i lives09_ok ?_; conv => whnf)
            | fail)
          exact ⟨rfl, rfl⟩
        · subst e1 e2
          repeat' (first
            | (refine vb_t rfl ?_; conv => whnf)
            | (refine vb_f rfl ?_; conv => whnf)
            | (refine vb_t (by assumption) ?_; conv => whnf)
            | (refine vb_f (by assumption) ?_; conv => whnf)
            | (rw [E8]; conv => whnf)
            | (rw [E2]; conv => whnf)
            | (rw [E3]; conv => whnf)
            | (refine vpur_i mg ?_; conv => whnf)
            | (refine vpur_i mt ?_; conv => whnf)
            | (refine vpur_i gt ?_; conv => whnf)
            | (refine vpur_i ag ?_; conv => whnf)
            | (refine vpur_i atx ?_; conv => whnf)
            | (refine vpur_i (by assumption) ?_; conv => whnf)
            | (refine vpur_i lb ?_; conv => whnf)
            | (refine vpur_i wg ?_; conv => whnf)
            | (refine vpur_i lives09_ok ?_; conv => whnf)
            | fail)
          exact ⟨rfl, rfl⟩
        · subst e1 e2
          obtain ⟨W, N, v, T1, T2, T3, T4⟩ := hc rfl
          repeat' (first
            | (refine vb_t rfl ?_; conv => whnf)
            | (refine vb_f rfl ?_; conv => whnf)
            | (refine vb_t (by assumption) ?_; conv => whnf)
            | (refine vb_f (by assumption) ?_; conv => whnf)
            | (rw [E8]; conv => whnf)
            | (rw [E2]; conv => whnf)
            | (rw [E3]; conv => whnf)
            | (refine vpur_i mg ?_; conv => whnf)
            | (refine vpur_i mt ?_; conv => whnf)
            | (refine vpur_i gt ?_; conv => whnf)
            | (refine vpur_i ag ?_; conv => whnf)
            | (refine vpur_i atx ?_; conv => whnf)
            | (refine vpur_i (by assumption) ?_; conv => whnf)
            | (refine vpur_i lb ?_; conv => whnf)
            | (refine vpur_i wg ?_; conv => whnf)
            | (refine vpur_i wt ?_; conv => whnf)
            | (refine vpur_i lives09_ok ?_; conv => whnf)
            | fail)
          exact ⟨rfl, rfl⟩
      · obtain ⟨W3, L1, L2⟩ := hal rfl
        refine fin _ (fun e => ?_) (fun e1 e2 => ?_) (fun e1 e2 => ?_)
        · subst e
          repeat' (first
            | (refine vb_t rfl ?_; conv => whnf)
            | (refine vb_f rfl ?_; conv => whnf)
            | (refine vb_t (by assumption) ?_; conv => whnf)
            | (refine vb_f (by assumption) ?_; conv => whnf)
            | (rw [E8]; conv => whnf)
            | (rw [E2]; conv => whnf)
            | (rw [E3]; conv => whnf)
            | (refine vpur_i mg ?_; conv => whnf)
            | (refine vpur_i mt ?_; conv => whnf)
            | (refine vpur_i gt ?_; conv => whnf)
            | (refine vpur_i ag ?_; conv => whnf)
            | (refine vpur_i atx ?_; conv => whnf)
            | (refine vpur_i (by assumption) ?_; conv => whnf)
            | (refine vpur_i lb ?_; conv => whnf)
            | (refine vpur_i lives09_ok ?_; conv => whnf)
            | fail)
          exact ⟨rfl, rfl⟩
        · subst e1 e2
          repeat' (first
            | (refine vb_t rfl ?_; conv => whnf)
            | (refine vb_f rfl ?_; conv => whnf)
            | (refine vb_t (by assumption) ?_; conv => whnf)
            | (refine vb_f (by assumption) ?_; conv => whnf)
            | (rw [E8]; conv => whnf)
            | (rw [E2]; conv => whnf)
            | (rw [E3]; conv => whnf)
            | (refine vpur_i mg ?_; conv => whnf)
            | (refine vpur_i mt ?_; conv => whnf)
            | (refine vpur_i gt ?_; conv => whnf)
            | (refine vpur_i ag ?_; conv => whnf)
            | (refine vpur_i atx ?_; conv => whnf)
            | (refine vpur_i (by assumption) ?_; conv => whnf)
            | (refine vpur_i lb ?_; conv => whnf)
            | (refine vpur_i wg ?_; conv => whnf)
            | (refine vpur_i lives09_ok ?_; conv => whnf)
            | fail)
          exact ⟨rfl, rfl⟩
        · subst e1 e2
          obtain ⟨W, N, v, T1, T2, T3, T4⟩ := hc rfl
          repeat' (first
            | (refine vb_t rfl ?_; conv => whnf)
            | (refine vb_f rfl ?_; conv => whnf)
            | (refine vb_t (by assumption) ?_; conv => whnf)
            | (refine vb_f (by assumption) ?_; conv => whnf)
            | (rw [E8]; conv => whnf)
            | (rw [E2]; conv => whnf)
            | (rw [E3]; conv => whnf)
            | (refine vpur_i mg ?_; conv => whnf)
            | (refine vpur_i mt ?_; conv => whnf)
            | (refine vpur_i gt ?_; conv => whnf)
            | (refine vpur_i ag ?_; conv => whnf)
            | (refine vpur_i atx ?_; conv => whnf)
            | (refine vpur_i (by assumption) ?_; conv => whnf)
            | (refine vpur_i lb ?_; conv => whnf)
            | (refine vpur_i wg ?_; conv => whnf)
            | (refine vpur_i wt ?_; conv => whnf)
            | (refine vpur_i lives09_ok ?_; conv => whnf)
            | fail)
          exact ⟨rfl, rfl⟩
end Go.Proofs.YtapnjabhcdlhbaaGreatDoor.Ab
namespace Go.Proofs.YtapnjabhcdlhbaaGreatDoor.Ab
open Go Go.ChangeShapes Go.WideShapes Go.RowKit
set_option linter.unusedSimpArgs false
set_option maxRecDepth 100000
set_option linter.unusedVariables false
set_option maxHeartbeats 4000000
theorem box_of {d : Nat} {xs : List DV} (h : Shape Tryz.prog (d + 2) 90 xs) : ∃ b : Bx, xs = bxRow b := by
  simp only [Shape, Tryz.underlying90, Tryz.underlying3, ShapeL] at h
  obtain ⟨a, b, rfl, ⟨k, rfl, _⟩, c, d, rfl, ⟨n, rfl, _⟩, rfl⟩ := h
  exact ⟨(k, n), rfl⟩
theorem boxRows_of {d : Nat} : ∀ {rows : List (List DV)}, (∀ row ∈ rows, Shape Tryz.prog (d + 2) 90 row) → ∃ l : List Bx, rows = l.map bxRow
  | [], _ => ⟨[], rfl⟩
  | r :: rs, h => by
    obtain ⟨b, rfl⟩ := box_of (h r (List.mem_cons_self ..))
    obtain ⟨l, rfl⟩ := boxRows_of fun r hr => h r (List.mem_cons_of_mem _ hr)
    exact ⟨b :: l, rfl⟩
theorem cellsBox : Tryz.prog.cellsOf 90 = 2 := by kernel_rfl
theorem cellsLine : Tryz.prog.cellsOf 88 = 1 := by kernel_rfl
theorem line_of {d : Nat} {xs : List DV} (h : Shape Tryz.prog (d + 3) 88 xs) : ∃ x : Ln, xs = lnRow x ∧ isLine x.1 x.2 := by
  rw [Shape, Tryz.underlying88] at h
  rcases h with rfl | ⟨rows, rfl, hr, hlen⟩
  · exact ⟨(.nilsl, []), rfl, .inl ⟨rfl, rfl⟩, Nat.zero_le _⟩
  · obtain ⟨l, rfl⟩ := boxRows_of hr
    rw [cellsBox]
    rw [List.length_map] at hlen
    have hlen : _ ≤ 9223372036854775807 := hlen
    exact ⟨(.sl 2 (l.map bxRow), l), rfl, .inr rfl, hlen⟩
theorem lineRows_of {d : Nat} : ∀ {rows : List (List DV)}, (∀ row ∈ rows, Shape Tryz.prog (d + 3) 88 row) → ∃ w : List Ln, rows = w.map lnRow ∧ ∀ x ∈ w, isLine x.1 x.2
  | [], _ => ⟨[], rfl, fun x h => by cases h⟩
  | r :: rs, h => by
    obtain ⟨x, rfl, hx⟩ := line_of (h r (List.mem_cons_self ..))
    obtain ⟨w, rfl, hw⟩ := lineRows_of fun r hr => h r (List.mem_cons_of_mem _ hr)
    refine ⟨x :: w, rfl, fun y hy => ?_⟩
    rcases List.mem_cons.1 hy with rfl | hy
    · exact hx
    · exact hw y hy
theorem boxes_of {d : Nat} {xs : List DV} (h : Shape Tryz.prog (d + 4) 72 xs) : ∃ (w : List Ln) (v : DV), linesA w v ∧ xs = [v] := by
  rw [Shape, Tryz.underlying72] at h
  rcases h with rfl | ⟨rows, rfl, hr, hlen⟩
  · exact ⟨[], .nilsl, ⟨(fun x h => by cases h), Nat.zero_le _, .inl ⟨rfl, rfl⟩⟩, rfl⟩
  · obtain ⟨w, rfl, hw⟩ := lineRows_of hr
    rw [cellsLine]
    rw [List.length_map] at hlen
    have hlen : _ ≤ 9223372036854775807 := hlen
    exact ⟨w, _, ⟨hw, hlen, .inr rfl⟩, rfl⟩
theorem arg_boxes (x : DV) : argA Tryz.prog 72 [x] = .d x := by simp only [argA, Tryz.underlying72]
end Go.Proofs.YtapnjabhcdlhbaaGreatDoor.Ab

