/- Some texts as one, one behind the other; what is not leaned on is left out. -/
import Derived.Test.YtkljckbaenbjeaaGreatDoorQ4
import Derived.Test.YtkljckbaenbjeaaGreatDoorC00q
import Derived.Test.YtkljckbaenbjeaaGreatDoorQ1
set_option linter.unusedSimpArgs false
set_option linter.unusedVariables false
namespace Go.Proofs.YtkljckbaenbjeaaGreatDoor.Ab
open Go
set_option linter.unusedSimpArgs false
set_option maxRecDepth 100000
set_option linter.unusedVariables false
set_option maxHeartbeats 4000000
theorem rnames_ok (l : List (List UInt8)) (v : DV) (hv : SlV 1 (l.map wsRow) v) (hs : SmN l) : Pur F0 97 [.d v] [] .no (.ret (B (pb (NamesP l)))) .no := by
 obtain ⟨hs1, hs2⟩ := hs
 rcases hv with ⟨rfl, hn⟩ | rfl
 · have hn0 : l = [] := List.map_eq_nil_iff.1 hn
   subst hn0
   have hA : pb (NamesP []) = false := pb_f fun h => absurd h.1 (by decide)
   rw [hA]
   refine pur_code code97_ok ?_
   conv => whnf
   repeat' ((first | refine bt ?_ | refine bf ?_ | refine vb_t (by (first | omega | (simp only [ilt_t, ilt_f, ile_t, ile_f, ieq_t, ieq_f, ofn, List.length_map, Bool.not_eq_true', Bool.not_eq_false'] at *; omega))) ?_ | refine vl ?_ | fail) <;> conv => whnf)
   exact ⟨rfl, rfl⟩
 by_cases hb : l.length < 1 ∨ 16 < l.length
 · have hA : pb (NamesP l) = false := pb_f fun h => by have h1 := h.1; have h2 := h.2.1; omega
   rw [hA]
   refine pur_code code97_ok ?_
   conv => whnf
   by_cases b1 : l.length < 1
   · repeat' ((first | refine bt ?_ | refine bf ?_ | refine vb_t (by (first | omega | (simp only [ilt_t, ilt_f, ile_t, ile_f, ieq_t, ieq_f, ofn, List.length_map, Bool.not_eq_true', Bool.not_eq_false'] at *; omega))) ?_ | refine vl ?_ | fail) <;> conv => whnf)
     exact ⟨rfl, rfl⟩
   · have b2 : 16 < l.length := by omega
     repeat' ((first | refine bt ?_ | refine bf ?_ | refine vb_t (by (first | omega | (simp only [ilt_t, ilt_f, ile_t, ile_f, ieq_t, ieq_f, ofn, List.length_map, Bool.not_eq_true', Bool.not_eq_false'] at *; omega))) ?_ | refine vb_f (by (first | omega | (simp only [ilt_t, ilt_f, ile_t, ile_f, ieq_t, ieq_f, ofn, List.length_map, Bool.not_eq_true', Bool.not_eq_false'] at *; omega))) ?_ | refine vl ?_ | fail) <;> conv => whnf)
     exact ⟨rfl, rfl⟩
 · have b1 : ¬ l.length < 1 := fun h => hb (.inl h)
   have b2 : ¬ 16 < l.length := fun h => hb (.inr h)
   refine pur_code code97_ok ?_
   conv => whnf
   repeat' ((first | refine bt ?_ | refine bf ?_ | refine vb_t (by (first | omega | (simp only [ilt_t, ilt_f, ile_t, ile_f, ieq_t, ieq_f, ofn, List.length_map, Bool.not_eq_true', Bool.not_eq_false'] at *; omega))) ?_ | refine vb_f (by (first | omega | (simp only [ilt_t, ilt_f, ile_t, ile_f, ieq_t, ieq_f, ofn, List.length_map, Bool.not_eq_true', Bool.not_eq_false'] at *; omega))) ?_ | refine vl ?_ | fail) <;> conv => whnf)
   refine vloop_cnt (α := Unit) l.length (fun k _ => ∀ i s, i < k → l[i]? = some s → customB s = true) (fun k _ => [(3, I (k : Int))]) () (fun i s h => by omega) rfl ?_
   intro k _ hk hI
   conv => whnf
   by_cases hlt : k < l.length
   · obtain ⟨s, hs⟩ := get_in hlt
     have hg := iget_map (f := wsRow) hs
     have hl := lt_len (f := wsRow) hlt
     have hcu := rcustom_ok s (by have := hs2 s (List.mem_of_getElem? hs); omega)
     cases hcb : customB s with
     | true =>
      rw [hcb] at hcu
      repeat' ((first | refine bt ?_ | refine bf ?_ | refine vb_t (by (first | omega | (simp only [ilt_t, ilt_f, ile_t, ile_f, ieq_t, ieq_f, ofn, List.length_map, Bool.not_eq_true', Bool.not_eq_false'] at *; omega))) ?_ | refine vo_i hg ?_ | refine vpur_i hcu ?_ | refine vl ?_ | fail) <;> conv => whnf)
      refine ⟨⟨(k + 1, ()), (by omega), ?_⟩, (by simp only; omega), (by repeat' (first | exact rfl | exact slot_eq (I_eq (iadd_one (by omega))) | (refine cons_eq ?_ ?_) | assumption)), rfl, rfl, rfl⟩
      simp only []
      exact upto_succ hI hs hcb
     | false =>
      rw [hcb] at hcu
      have hA : pb (NamesP l) = false := pb_f fun h => by
       have := h.2.2 s (List.mem_of_getElem? hs); rw [hcb] at this; cases this
      rw [hA]
      repeat' ((first | refine bt ?_ | refine bf ?_ | refine vb_t (by (first | omega | (simp only [ilt_t, ilt_f, ile_t, ile_f, ieq_t, ieq_f, ofn, List.length_map, Bool.not_eq_true', Bool.not_eq_false'] at *; omega))) ?_ | refine vo_i hg ?_ | refine vpur_i hcu ?_ | refine vl ?_ | fail) <;> conv => whnf)
      exact ⟨rfl, rfl⟩
   · have hl := nlt_len (f := wsRow) hlt
     have hN : NamesP l := ⟨by omega, by omega, names_all fun i s h h1 => hI i s (by omega) h1⟩
     rw [pb_t hN]
     repeat' ((first | refine bt ?_ | refine bf ?_ | refine vb_f (by (first | omega | (simp only [ilt_t, ilt_f, ile_t, ile_f, ieq_t, ieq_f, ofn, List.length_map, Bool.not_eq_true', Bool.not_eq_false'] at *; omega))) ?_ | refine vl ?_ | fail) <;> conv => whnf)
     exact ⟨rfl, rfl⟩
theorem piece_ok (p : Pc) (hp : PcOk p) (hs : SmN p.names) (hi2 : p.inner.length ≤ 1000000) : Pur F0 64 [pcA p] [] .no (.ret (B (pb (AloneP p)))) .no := by
 cases hp with
 | @mk kd vn names t c vi inner hn hi h0 =>
 simp only [Pc.names, Pc.inner] at hs hi2
 obtain ⟨hs1, hs2⟩ := hs
 obtain ⟨ak, an, bk, bn, fit, lk, ln⟩ := t
 have hn' := hn
 rcases hn with ⟨rfl, hn⟩ | rfl <;> rcases hi with ⟨rfl, hi⟩ | rfl
 · have hn0 : names = [] := List.map_eq_nil_iff.1 hn
   have hi0 : inner = [] := List.map_eq_nil_iff.1 hi
   subst hn0 hi0
   have hz := trk0_eq (ak := ak) (an := an) (bk := bk) (bn := bn) (fit := fit) (lk := lk) (ln := ln)
   have hr := rright_ok ⟨ak, an, bk, bn, fit, lk, ln⟩
   have hna := rnames_ok _ _ hn' ⟨hs1, hs2⟩
   have hnl : ilt (Int.ofNat 0) (0 : Int) = pb (([] : List (List UInt8)) ≠ []) := by
    rw [Bool.eq_iff_iff, ilt_t, pb_iff, ← List.length_pos_iff, lit0]
    simp
   have hil : ieq (0 : Int) (Int.ofNat 0) = pb (([] : List Pc) = []) := by
    rw [Bool.eq_iff_iff, ieq_t, pb_iff, ← List.length_eq_zero_iff, lit0]
    simp
   have hNE : NamesP ([] : List (List UInt8)) → ([] : List (List UInt8)) ≠ [] := fun h e => by have := h.1; rw [e] at this; exact absurd this (by decide)
   refine pur_code code64_ok ?_
   conv => whnf
   repeat' ((first | refine bt ?_ | refine bf ?_ | refine vpur_i hr ?_ | refine vpur_i hna ?_ | (rw [hz]) | (rw [hnl]) | (rw [hil]) | refine vl ?_ | refine vb_i (fun h => ?_) (fun h => ?_) | fail) <;> conv => whnf)
   all_goals (refine ⟨retB ?_, rfl⟩; clear hr hna hs1 hs2 h0 hi2; rw [Bool.eq_iff_iff, pb_iff])
   all_goals (clear hz hnl hil; simp_all [AloneP, AutoK, Pc.kind, Pc.names, Pc.inner, Pc.t, Pc.count, pb_iff, pb_ff, ieq_t, ieq_f, ile_t, ile_f, ile_d, lit0, lit1, lit2, lit3, lit4, lit5])
   all_goals (intros; omega)
 · have hn0 : names = [] := List.map_eq_nil_iff.1 hn
   subst hn0
   have hz := trk0_eq (ak := ak) (an := an) (bk := bk) (bn := bn) (fit := fit) (lk := lk) (ln := ln)
   have hr := rright_ok ⟨ak, an, bk, bn, fit, lk, ln⟩
   have hna := rnames_ok _ _ hn' ⟨hs1, hs2⟩
   have hnl : ilt (Int.ofNat 0) (0 : Int) = pb (([] : List (List UInt8)) ≠ []) := by
    rw [Bool.eq_iff_iff, ilt_t, pb_iff, ← List.length_pos_iff, lit0]
    simp
   have hil : ieq ((inner.map pcRow).length : Int) (Int.ofNat 0) = pb (inner = []) := by
    rw [Bool.eq_iff_iff, ieq_t, pb_iff, ← List.length_eq_zero_iff, lit0]
    simp
   have hNE : NamesP ([] : List (List UInt8)) → ([] : List (List UInt8)) ≠ [] := fun h e => by have := h.1; rw [e] at this; exact absurd this (by decide)
   refine pur_code code64_ok ?_
   conv => whnf
   repeat' ((first | refine bt ?_ | refine bf ?_ | refine vpur_i hr ?_ | refine vpur_i hna ?_ | (rw [hz]) | (rw [hnl]) | (rw [hil]) | refine vl ?_ | refine vb_i (fun h => ?_) (fun h => ?_) | fail) <;> conv => whnf)
   all_goals (refine ⟨retB ?_, rfl⟩; clear hr hna hs1 hs2 h0 hi2; rw [Bool.eq_iff_iff, pb_iff])
   all_goals (clear hz hnl hil; simp_all [AloneP, AutoK, Pc.kind, Pc.names, Pc.inner, Pc.t, Pc.count, pb_iff, pb_ff, ieq_t, ieq_f, ile_t, ile_f, ile_d, lit0, lit1, lit2, lit3, lit4, lit5])
   all_goals (intros; omega)
 · have hi0 : inner = [] := List.map_eq_nil_iff.1 hi
   subst hi0
   have hz := trk0_eq (ak := ak) (an := an) (bk := bk) (bn := bn) (fit := fit) (lk := lk) (ln := ln)
   have hr := rright_ok ⟨ak, an, bk, bn, fit, lk, ln⟩
   have hna := rnames_ok _ _ hn' ⟨hs1, hs2⟩
   have hnl : ilt (Int.ofNat 0) ((names.map wsRow).length : Int) = pb (names ≠ []) := by
    rw [Bool.eq_iff_iff, ilt_t, pb_iff, ← List.length_pos_iff, lit0]
    simp
   have hil : ieq (0 : Int) (Int.ofNat 0) = pb (([] : List Pc) = []) := by
    rw [Bool.eq_iff_iff, ieq_t, pb_iff, ← List.length_eq_zero_iff, lit0]
    simp
   have hNE : NamesP names → names ≠ [] := fun h e => by have := h.1; rw [e] at this; exact absurd this (by decide)
   refine pur_code code64_ok ?_
   conv => whnf
   repeat' ((first | refine bt ?_ | refine bf ?_ | refine vpur_i hr ?_ | refine vpur_i hna ?_ | (rw [hz]) | (rw [hnl]) | (rw [hil]) | refine vl ?_ | refine vb_i (fun h => ?_) (fun h => ?_) | fail) <;> conv => whnf)
   all_goals (refine ⟨retB ?_, rfl⟩; clear hr hna hs1 hs2 h0 hi2; rw [Bool.eq_iff_iff, pb_iff])
   all_goals (clear hz hnl hil; simp_all [AloneP, AutoK, Pc.kind, Pc.names, Pc.inner, Pc.t, Pc.count, pb_iff, pb_ff, ieq_t, ieq_f, ile_t, ile_f, ile_d, lit0, lit1, lit2, lit3, lit4, lit5])
   all_goals (intros; omega)
 · have hz := trk0_eq (ak := ak) (an := an) (bk := bk) (bn := bn) (fit := fit) (lk := lk) (ln := ln)
   have hr := rright_ok ⟨ak, an, bk, bn, fit, lk, ln⟩
   have hna := rnames_ok _ _ hn' ⟨hs1, hs2⟩
   have hnl : ilt (Int.ofNat 0) ((names.map wsRow).length : Int) = pb (names ≠ []) := by
    rw [Bool.eq_iff_iff, ilt_t, pb_iff, ← List.length_pos_iff, lit0]
    simp
   have hil : ieq ((inner.map pcRow).length : Int) (Int.ofNat 0) = pb (inner = []) := by
    rw [Bool.eq_iff_iff, ieq_t, pb_iff, ← List.length_eq_zero_iff, lit0]
    simp
   have hNE : NamesP names → names ≠ [] := fun h e => by have := h.1; rw [e] at this; exact absurd this (by decide)
   refine pur_code code64_ok ?_
   conv => whnf
   repeat' ((first | refine bt ?_ | refine bf ?_ | refine vpur_i hr ?_ | refine vpur_i hna ?_ | (rw [hz]) | (rw [hnl]) | (rw [hil]) | refine vl ?_ | refine vb_i (fun h => ?_) (fun h => ?_) | fail) <;> conv => whnf)
   all_goals (refine ⟨retB ?_, rfl⟩; clear hr hna hs1 hs2 h0 hi2; rw [Bool.eq_iff_iff, pb_iff])
   all_goals (clear hz hnl hil; simp_all [AloneP, AutoK, Pc.kind, Pc.names, Pc.inner, Pc.t, Pc.count, pb_iff, pb_ff, ieq_t, ieq_f, ile_t, ile_f, ile_d, lit0, lit1, lit2, lit3, lit4, lit5])
   all_goals (intros; omega)
end Go.Proofs.YtkljckbaenbjeaaGreatDoor.Ab
namespace Go.Proofs.YtkljckbaenbjeaaGreatDoor.Ab
open Go
set_option linter.unusedSimpArgs false
set_option maxRecDepth 100000
set_option linter.unusedVariables false
set_option maxHeartbeats 4000000
def SmP (l : List Pc) : Prop := l.length ≤ 1000000 ∧ ∀ p ∈ l, PcOk p ∧ SmN p.names ∧ p.inner.length ≤ 1000000
def BeforeP (l : List Pc) (i : Nat) : Prop := 0 < i ∧ ∃ q, l[i - 1]? = some q ∧ q.kind = 1
def ItemP (l : List Pc) (deep : Bool) (i : Nat) (p : Pc) : Prop := AloneP p ∧ ¬ (deep = true ∧ RepK p.kind) ∧ ¬ (p.kind = 1 ∧ BeforeP l i)
def ListedP (l : List Pc) (deep : Bool) : Prop := (∀ (i : Nat) (p : Pc), l[i]? = some p → ItemP l deep i p) ∧ (∃ (i : Nat) (p : Pc), l[i]? = some p ∧ p.kind ≠ 1) ∧ l.length ≤ 256
theorem kind_ne {l : List Pc} {k : Nat} {p : Pc} (hp : l[k]? = some p) {x : Nat} (h : 0 < x ↔ ∃ (i : Nat) (p : Pc), i < k ∧ l[i]? = some p ∧ p.kind ≠ 1) : 0 < (if p.kind = 1 then x else x + 1) ↔ ∃ (i : Nat) (p : Pc), i < k + 1 ∧ l[i]? = some p ∧ p.kind ≠ 1 := by
 split
 · rename_i h1
   rw [h]
   constructor
   · rintro ⟨i, q, hi, hq, hk⟩; exact ⟨i, q, by omega, hq, hk⟩
   · rintro ⟨i, q, hi, hq, hk⟩
     by_cases e : i = k
     · subst e; rw [hp] at hq; cases hq; exact (hk h1).elim
     · exact ⟨i, q, by omega, hq, hk⟩
 · rename_i h1
   exact ⟨fun _ => ⟨k, p, by omega, hp, h1⟩, fun _ => by omega⟩
theorem iget_prev {l : List Pc} {k : Nat} {q : Pc} (h0 : 0 < k) (hk : k ≤ 1000000) (hq : l[k - 1]? = some q) : iget (l.map pcRow) (isub .i64 (k : Int) (Int.ofNat 1)) = some (pcRow q) := by
 have e : isub .i64 (k : Int) (Int.ofNat 1) = ((k - 1 : Nat) : Int) := by rw [isub64 (by rw [lit1]; omega) (by rw [lit1]; omega), lit1]; omega
 rw [e]
 exact iget_map hq
theorem listed_ok (l : List Pc) (deep : Bool) (hs : SmP l) : Pur F0 55 [.d (.sl 11 (l.map pcRow)), B deep] [] .no (.ret (B (pb (ListedP l deep)))) .no := by
 obtain ⟨hlen, hall⟩ := hs
 refine pur_code code55_ok ?_
 conv => whnf
 repeat' ((first | refine bt ?_ | refine bf ?_ | refine vl ?_ | fail) <;> conv => whnf)
 refine vloop_cnt (α := Nat) l.length (fun k x => x ≤ k ∧ (0 < x ↔ ∃ (i : Nat) (p : Pc), i < k ∧ l[i]? = some p ∧ p.kind ≠ 1) ∧ ∀ (i : Nat) (p : Pc), i < k → l[i]? = some p → ItemP l deep i p) (fun k x => [(5, I (x : Int)), (10, I (k : Int))]) 0
  ⟨Nat.le_refl _, ⟨fun h => by omega, fun ⟨i, p, h, _⟩ => by omega⟩, fun i p h => by omega⟩ rfl ?_
 intro k x hk hI
 obtain ⟨hx, hcnt, hit⟩ := hI
 conv => whnf
 by_cases hlt : k < l.length
 · obtain ⟨p, hp⟩ := get_in hlt
   have hg := iget_map (f := pcRow) hp
   have hl := lt_len (f := pcRow) hlt
   obtain ⟨hpo, hps, hpi⟩ := hall p (List.mem_of_getElem? hp)
   have ha := alone_ok p hpo hps hpi
   have hre := isRepeat_ok p.kind
   have hc := kind_ne hp hcnt
   have hc1 : p.kind = 1 → (0 < x ↔ ∃ (i : Nat) (p : Pc), i < k + 1 ∧ l[i]? = some p ∧ p.kind ≠ 1) := fun h => by rw [if_pos h] at hc; exact hc
   have hc2 : p.kind ≠ 1 → (0 < x + 1 ↔ ∃ (i : Nat) (p : Pc), i < k + 1 ∧ l[i]? = some p ∧ p.kind ≠ 1) := fun h => by rw [if_neg h] at hc; exact hc
   have hit' : ItemP l deep k p → ∀ (i : Nat) (p : Pc), i < k + 1 → l[i]? = some p → ItemP l deep i p := fun h => upto_succ hit hp h
   have hbad : ¬ ItemP l deep k p → pb (ListedP l deep) = false := fun h => pb_f fun hL => h (hL.1 k p hp)
   clear hit hcnt hall hc
   by_cases h0 : 0 < k
   · obtain ⟨q, hq⟩ : ∃ q, l[k - 1]? = some q := get_in (by omega)
     have hgq := iget_prev h0 (by omega) hq
     have q0 : ilt (Int.ofNat 0) (k : Int) = true := by rw [ilt_t, lit0]; omega
     have hB : BeforeP l k ↔ q.kind = 1 := ⟨fun ⟨_, q', h1, h2⟩ => by rw [hq] at h1; cases h1; exact h2, fun h => ⟨h0, q, hq, h⟩⟩
     unfold ItemP at hit' hbad
     rw [hB] at hit' hbad
     clear hB hp hq hpo hps hpi
     cases p with
     | mk kd vn names t c vi inner =>
     cases q with
     | mk kd2 vn2 names2 t2 c2 vi2 inner2 =>
     simp only [Pc.kind] at hre
     repeat' ((first | refine bt ?_ | refine bf ?_ | refine vpur_i ha ?_ | refine vpur_i hre ?_ | refine vo_i hg ?_ | refine vo_i hgq ?_ | refine vl ?_ | refine vb_i (fun h => ?_) (fun h => ?_) | fail) <;> conv => whnf)
     all_goals first
      | (refine ⟨retB (Eq.symm (hbad ?_)), rfl⟩; clear ha hre hc1 hc2 hit' hbad hg hgq; simp_all [Pc.kind, pb_iff, pb_ff, ieq_t, ieq_f, lit1]; done)
      | (refine ⟨⟨(k + 1, x), (by omega), (by omega), hc1 (by have hq := ‹(!ieq kd (Int.ofNat 1)) = false›; rw [Bool.not_eq_false', ieq_t] at hq; exact hq), ?_⟩, (by simp only; omega), (by repeat' (first | exact rfl | exact slot_eq (I_eq (iadd_one (by omega))) | (refine cons_eq ?_ ?_) | assumption)), rfl, rfl, rfl⟩; refine hit' ?_; clear ha hre hc1 hc2 hit' hbad hg hgq; simp_all [Pc.kind, pb_iff, pb_ff, ieq_t, ieq_f, lit1]; done)
      | (exfalso; clear ha hre hc1 hc2 hit' hbad hg hgq hl; simp_all; done)
      | (exfalso; clear ha hre hc1 hc2 hit' hbad hg hgq hl; simp_all [ilt_t, ilt_f, lit0]; omega)
      | (refine ⟨⟨(k + 1, x + 1), (by omega), (by omega), hc2 (by have hq := ‹(!ieq kd (Int.ofNat 1)) = true›; rw [Bool.not_eq_true', ieq_f] at hq; exact hq), ?_⟩, (by simp only; omega), (by repeat' (first | exact rfl | exact slot_eq (I_eq (iadd_one (by omega))) | (refine cons_eq ?_ ?_) | assumption)), rfl, rfl, rfl⟩; refine hit' ?_; clear ha hre hc1 hc2 hit' hbad hg hgq; simp_all [Pc.kind, pb_iff, pb_ff, ieq_t, ieq_f, lit1]; done)
   · have hB : ¬ BeforeP l k := fun h => h0 h.1
     have q0 : ilt (Int.ofNat 0) (k : Int) = false := by rw [ilt_f, lit0]; omega
     unfold ItemP at hit' hbad
     clear hp hpo hps hpi
     cases p with
     | mk kd vn names t c vi inner =>
     simp only [Pc.kind] at hre
     repeat' ((first | refine bt ?_ | refine bf ?_ | refine vpur_i ha ?_ | refine vpur_i hre ?_ | refine vo_i hg ?_ | refine vl ?_ | refine vb_i (fun h => ?_) (fun h => ?_) | fail) <;> conv => whnf)
     all_goals first
      | (refine ⟨retB (Eq.symm (hbad ?_)), rfl⟩; clear ha hre hc1 hc2 hit' hbad hg; simp_all [Pc.kind, pb_iff, pb_ff, ieq_t, ieq_f, lit1]; done)
      | (refine ⟨⟨(k + 1, x), (by omega), (by omega), hc1 (by have hq := ‹(!ieq kd (Int.ofNat 1)) = false›; rw [Bool.not_eq_false', ieq_t] at hq; exact hq), ?_⟩, (by simp only; omega), (by repeat' (first | exact rfl | exact slot_eq (I_eq (iadd_one (by omega))) | (refine cons_eq ?_ ?_) | assumption)), rfl, rfl, rfl⟩; refine hit' ?_; clear ha hre hc1 hc2 hit' hbad hg; simp_all [Pc.kind, pb_iff, pb_ff, ieq_t, ieq_f, lit1]; done)
      | (refine ⟨⟨(k + 1, x + 1), (by omega), (by omega), hc2 (by have hq := ‹(!ieq kd (Int.ofNat 1)) = true›; rw [Bool.not_eq_true', ieq_f] at hq; exact hq), ?_⟩, (by simp only; omega), (by repeat' (first | exact rfl | exact slot_eq (I_eq (iadd_one (by omega))) | (refine cons_eq ?_ ?_) | assumption)), rfl, rfl, rfl⟩; refine hit' ?_; clear ha hre hc1 hc2 hit' hbad hg; simp_all [Pc.kind, pb_iff, pb_ff, ieq_t, ieq_f, lit1]; done)
 · have hl := nlt_len (f := pcRow) hlt
   have hall' : ∀ (i : Nat) (p : Pc), l[i]? = some p → ItemP l deep i p := fun i p h => hit i p (by have := (List.getElem?_eq_some_iff.1 h).1; omega) h
   have hkl : k = l.length := by omega
   have hcnt' : 0 < x ↔ ∃ (i : Nat) (p : Pc), l[i]? = some p ∧ p.kind ≠ 1 := by
    rw [hcnt]
    exact ⟨fun ⟨i, p, _, h⟩ => ⟨i, p, h⟩, fun ⟨i, p, h1, h2⟩ => ⟨i, p, by have := (List.getElem?_eq_some_iff.1 h1).1; omega, h1, h2⟩⟩
   repeat' ((first | refine bt ?_ | refine bf ?_ | refine vb_f (by (first | omega | (simp only [ilt_t, ilt_f, ile_t, ile_f, ieq_t, ieq_f, ofn, List.length_map, Bool.not_eq_true', Bool.not_eq_false'] at *; omega))) ?_ | refine vl ?_ | refine vb_i (fun h => ?_) (fun h => ?_) | fail) <;> conv => whnf)
   all_goals (refine ⟨retB ?_, rfl⟩; rw [Bool.eq_iff_iff, pb_iff])
   · have hx0 : 0 < x := by have := ‹ilt (Int.ofNat 0) (x : Int) = true›; rw [ilt_t, lit0] at this; omega
     rw [ile_t, List.length_map]
     constructor
     · intro h; exact ⟨hall', hcnt'.1 hx0, by have : (l.length : Int) ≤ 256 := h; omega⟩
     · intro h; have := h.2.2; show (l.length : Int) ≤ 256; omega
   · have hx0 : ¬ 0 < x := by have := ‹ilt (Int.ofNat 0) (x : Int) = false›; rw [ilt_f, lit0] at this; omega
     constructor
     · intro h; cases h
     · intro h; exact (hx0 (hcnt'.2 h.2.1)).elim
end Go.Proofs.YtkljckbaenbjeaaGreatDoor.Ab
namespace Go.Proofs.YtkljckbaenbjeaaGreatDoor.Ab
open Go
set_option linter.unusedSimpArgs false
set_option maxRecDepth 100000
set_option linter.unusedVariables false
set_option maxHeartbeats 4000000
def AltP (l : List Pc) : Prop := (∀ (i : Nat) (p : Pc), l[i]? = some p → ¬ (p.kind = 1 ∧ BeforeP l i)) ∧ ∃ (i : Nat) (p : Pc), l[i]? = some p ∧ p.kind ≠ 1
theorem is_ne {l : List Pc} {k : Nat} {p : Pc} (hp : l[k]? = some p) {x : Bool} (h : x = true ↔ ∃ (i : Nat) (p : Pc), i < k ∧ l[i]? = some p ∧ p.kind ≠ 1) : (x = true ∨ p.kind ≠ 1) ↔ ∃ (i : Nat) (p : Pc), i < k + 1 ∧ l[i]? = some p ∧ p.kind ≠ 1 := by
 rw [h]
 constructor
 · rintro (⟨i, q, hi, hq, hk⟩ | hk)
   · exact ⟨i, q, by omega, hq, hk⟩
   · exact ⟨k, p, by omega, hp, hk⟩
 · rintro ⟨i, q, hi, hq, hk⟩
   by_cases e : i = k
   · subst e; rw [hp] at hq; cases hq; exact .inr hk
   · exact .inl ⟨i, q, by omega, hq, hk⟩
theorem alternate_ok (l : List Pc) (hlen : l.length ≤ 1000000) : Pur F0 63 [.d (.sl 11 (l.map pcRow))] [] .no (.ret (B (pb (AltP l)))) .no := by
 refine pur_code code63_ok ?_
 conv => whnf
 repeat' ((first | refine bt ?_ | refine bf ?_ | refine vl ?_ | fail) <;> conv => whnf)
 refine vloop_cnt (α := Bool) l.length (fun k x => (x = true ↔ ∃ (i : Nat) (p : Pc), i < k ∧ l[i]? = some p ∧ p.kind ≠ 1) ∧ ∀ (i : Nat) (p : Pc), i < k → l[i]? = some p → ¬ (p.kind = 1 ∧ BeforeP l i)) (fun k x => [(3, B x), (4, I (k : Int))]) false
  ⟨⟨fun h => by (cases h), fun ⟨i, p, h, _⟩ => by omega⟩, fun i p h => by omega⟩ rfl ?_
 intro k x hk hI
 obtain ⟨hcnt, hit⟩ := hI
 conv => whnf
 by_cases hlt : k < l.length
 · obtain ⟨p, hp⟩ := get_in hlt
   have hg := iget_map (f := pcRow) hp
   have hl := lt_len (f := pcRow) hlt
   have hc := is_ne hp hcnt
   have hit' : ¬ (p.kind = 1 ∧ BeforeP l k) → ∀ (i : Nat) (p : Pc), i < k + 1 → l[i]? = some p → ¬ (p.kind = 1 ∧ BeforeP l i) := fun h => upto_succ (P := fun i p => ¬ (p.kind = 1 ∧ BeforeP l i)) hit hp h
   have hbad : (p.kind = 1 ∧ BeforeP l k) → pb (AltP l) = false := fun h => pb_f fun hL => hL.1 k p hp h
   clear hit hcnt
   by_cases h0 : 0 < k
   · obtain ⟨q, hq⟩ : ∃ q, l[k - 1]? = some q := get_in (by omega)
     have hgq := iget_prev h0 (by omega) hq
     have q0 : ilt (Int.ofNat 0) (k : Int) = true := by rw [ilt_t, lit0]; omega
     have hB : BeforeP l k ↔ q.kind = 1 := ⟨fun ⟨_, q', h1, h2⟩ => by rw [hq] at h1; cases h1; exact h2, fun h => ⟨h0, q, hq, h⟩⟩
     rw [hB] at hit' hbad
     clear hB hp hq
     cases p with
     | mk kd vn names t c vi inner =>
     cases q with
     | mk kd2 vn2 names2 t2 c2 vi2 inner2 =>
     cases x with
     | true =>
      repeat' ((first | refine bt ?_ | refine bf ?_ | refine vo_i hg ?_ | refine vo_i hgq ?_ | refine vl ?_ | refine vb_i (fun h => ?_) (fun h => ?_) | fail) <;> conv => whnf)
      all_goals first
       | (refine ⟨retB (Eq.symm (hbad ?_)), rfl⟩; clear hc hit' hbad hg hgq; simp_all [Pc.kind, pb_iff, pb_ff, ieq_t, ieq_f, lit1]; done)
       | (refine ⟨⟨(k + 1, true), (by omega), ⟨?_, hit' ?_⟩⟩, (by simp only; omega), (by repeat' (first | exact rfl | exact slot_eq (I_eq (iadd_one (by omega))) | (refine cons_eq ?_ ?_) | assumption)), rfl, rfl, rfl⟩
          · rw [← hc]; simp
          · clear hc hit' hbad hg hgq; simp_all [Pc.kind, ieq_t, ieq_f, lit1]; done)
     | false =>
      repeat' ((first | refine bt ?_ | refine bf ?_ | refine vo_i hg ?_ | refine vo_i hgq ?_ | refine vl ?_ | refine vb_i (fun h => ?_) (fun h => ?_) | fail) <;> conv => whnf)
      all_goals first
       | (refine ⟨retB (Eq.symm (hbad ?_)), rfl⟩; clear hc hit' hbad hg hgq; simp_all [Pc.kind, pb_iff, pb_ff, ieq_t, ieq_f, lit1]; done)
       | (refine ⟨⟨(k + 1, !ieq kd (Int.ofNat 1)), (by omega), ⟨?_, hit' ?_⟩⟩, (by simp only; omega), (by repeat' (first | exact rfl | exact slot_eq (I_eq (iadd_one (by omega))) | (refine cons_eq ?_ ?_) | assumption)), rfl, rfl, rfl⟩
          · rw [← hc]; clear hc hit' hbad hg hgq; simp_all [Pc.kind, ieq_t, ieq_f, lit1]; done
          · clear hc hit' hbad hg hgq; simp_all [Pc.kind, ieq_t, ieq_f, lit1]; done)
   · have hB : ¬ BeforeP l k := fun h => h0 h.1
     have q0 : ilt (Int.ofNat 0) (k : Int) = false := by rw [ilt_f, lit0]; omega
     have hit2 := hit' fun h => hB h.2
     clear hp hit' hbad
     cases p with
     | mk kd vn names t c vi inner =>
     cases x with
     | true =>
      repeat' ((first | refine bt ?_ | refine bf ?_ | refine vo_i hg ?_ | refine vl ?_ | fail) <;> conv => whnf)
      exact ⟨⟨(k + 1, true), (by omega), ⟨by rw [← hc]; simp, hit2⟩⟩, (by simp only; omega), (by repeat' (first | exact rfl | exact slot_eq (I_eq (iadd_one (by omega))) | (refine cons_eq ?_ ?_) | assumption)), rfl, rfl, rfl⟩
     | false =>
      repeat' ((first | refine bt ?_ | refine bf ?_ | refine vo_i hg ?_ | refine vl ?_ | fail) <;> conv => whnf)
      exact ⟨⟨(k + 1, !ieq kd (Int.ofNat 1)), (by omega), ⟨by rw [← hc]; simp [Pc.kind, ieq_f, lit1], hit2⟩⟩, (by simp only; omega), (by repeat' (first | exact rfl | exact slot_eq (I_eq (iadd_one (by omega))) | (refine cons_eq ?_ ?_) | assumption)), rfl, rfl, rfl⟩
 · have hl := nlt_len (f := pcRow) hlt
   have hall' : ∀ (i : Nat) (p : Pc), l[i]? = some p → ¬ (p.kind = 1 ∧ BeforeP l i) := fun i p h => hit i p (by have := (List.getElem?_eq_some_iff.1 h).1; omega) h
   have hcnt' : x = true ↔ ∃ (i : Nat) (p : Pc), l[i]? = some p ∧ p.kind ≠ 1 := by
    rw [hcnt]
    exact ⟨fun ⟨i, p, _, h⟩ => ⟨i, p, h⟩, fun ⟨i, p, h1, h2⟩ => ⟨i, p, by have := (List.getElem?_eq_some_iff.1 h1).1; omega, h1, h2⟩⟩
   repeat' ((first | refine bt ?_ | refine bf ?_ | refine vb_f (by (first | omega | (simp only [ilt_t, ilt_f, ile_t, ile_f, ieq_t, ieq_f, ofn, List.length_map, Bool.not_eq_true', Bool.not_eq_false'] at *; omega))) ?_ | refine vl ?_ | fail) <;> conv => whnf)
   refine ⟨retB ?_, rfl⟩
   rw [Bool.eq_iff_iff, pb_iff, hcnt']
   exact ⟨fun h => ⟨hall', h⟩, fun h => h.2⟩
theorem listed_eq {l : List Pc} : (l.length ≤ 256 ∧ AltP l ∧ ∀ (i : Nat) (p : Pc), l[i]? = some p → (p.kind = 1 ∨ p.kind = 2) ∧ AloneP p) ↔ ListedP l true := by
 constructor
 · rintro ⟨h1, ⟨h2, h3⟩, h4⟩
   refine ⟨fun i p hp => ?_, h3, h1⟩
   obtain ⟨a, b⟩ := h4 i p hp
   refine ⟨b, ?_, h2 i p hp⟩
   rintro ⟨_, hr⟩
   unfold RepK AutoK at hr
   omega
 · rintro ⟨h1, h2, h3⟩
   refine ⟨h3, ⟨fun i p hp => (h1 i p hp).2.2, h2⟩, fun i p hp => ?_⟩
   obtain ⟨a, b, _⟩ := h1 i p hp
   refine ⟨?_, a⟩
   have : ¬ RepK p.kind := fun h => b ⟨rfl, h⟩
   rcases a with ⟨h, _⟩ | ⟨h, _⟩ | ⟨h, _⟩ | ⟨h, _⟩
   · exact .inl h
   · exact .inr h
   · exact (this (.inl h)).elim
   · exact (this (.inr h)).elim
theorem rauto_ok (l : List Pc) (hlen : l.length ≤ 1000000) : Pur F0 37 [.d (.sl 11 (l.map pcRow))] [] .no (.ret (B (pb (∃ p ∈ l, AutoK p.kind)))) .no := by
 refine pur_code code37_ok ?_
 conv => whnf
 repeat' ((first | refine bt ?_ | refine bf ?_ | refine vl ?_ | fail) <;> conv => whnf)
 refine vloop_cnt (α := Unit) l.length (fun k _ => ∀ (i : Nat) (p : Pc), i < k → l[i]? = some p → ¬ AutoK p.kind) (fun k _ => [(3, I (k : Int))]) () (fun i p h => by omega) rfl ?_
 intro k _ hk hI
 conv => whnf
 by_cases hlt : k < l.length
 · obtain ⟨p, hp⟩ := get_in hlt
   have hg := iget_map (f := pcRow) hp
   have hl := lt_len (f := pcRow) hlt
   have hit' : ¬ AutoK p.kind → ∀ (i : Nat) (p : Pc), i < k + 1 → l[i]? = some p → ¬ AutoK p.kind := fun h => upto_succ (P := fun i p => ¬ AutoK p.kind) hI hp h
   have hbad : AutoK p.kind → pb (∃ p ∈ l, AutoK p.kind) = true := fun h => pb_t ⟨p, List.mem_of_getElem? hp, h⟩
   clear hp
   cases p with
   | mk kd vn names t c vi inner =>
   repeat' ((first | refine bt ?_ | refine bf ?_ | refine vo_i hg ?_ | refine vl ?_ | refine vb_i (fun h => ?_) (fun h => ?_) | fail) <;> conv => whnf)
   all_goals first
    | (refine ⟨retB (Eq.symm (hbad ?_)), rfl⟩; clear hit' hbad hg; simp_all [Pc.kind, AutoK, ieq_t, ieq_f, lit4, lit5]; done)
    | (refine ⟨⟨(k + 1, ()), (by omega), ?_⟩, (by simp only; omega), (by repeat' (first | exact rfl | exact slot_eq (I_eq (iadd_one (by omega))) | (refine cons_eq ?_ ?_) | assumption)), rfl, rfl, rfl⟩; refine hit' ?_; clear hit' hbad hg; simp_all [Pc.kind, AutoK, ieq_t, ieq_f, lit4, lit5]; done)
 · have hl := nlt_len (f := pcRow) hlt
   have hno : ¬ ∃ p ∈ l, AutoK p.kind := by
    rintro ⟨p, hp, ha⟩
    obtain ⟨i, hi⟩ := List.getElem?_of_mem hp
    exact hI i p (by have := (List.getElem?_eq_some_iff.1 hi).1; omega) hi ha
   rw [pb_f hno]
   repeat' ((first | refine bt ?_ | refine bf ?_ | refine vb_f (by (first | omega | (simp only [ilt_t, ilt_f, ile_t, ile_f, ieq_t, ieq_f, ofn, List.length_map, Bool.not_eq_true', Bool.not_eq_false'] at *; omega))) ?_ | refine vl ?_ | fail) <;> conv => whnf)
   exact ⟨rfl, rfl⟩
theorem alt_nil : ¬ AltP [] := fun ⟨_, i, p, h, _⟩ => by simp at h
theorem inner_nil : Pur F0 65 [.d .nilsl] [] .no (.ret (B false)) .no := pur_closed (n := 100) (by kernel_rfl)
theorem rinner_ok (l : List Pc) (v : DV) (hv : SlV 11 (l.map pcRow) v) (hs : SmP l) : Pur F0 65 [.d v] [] .no (.ret (B (pb (ListedP l true)))) .no := by
 obtain ⟨hlen, hall⟩ := hs
 rw [pb_congr listed_eq.symm]
 rcases hv with ⟨rfl, hn⟩ | rfl
 · obtain rfl : l = [] := List.map_eq_nil_iff.1 hn
   rw [pb_f fun h => alt_nil h.2.1]
   exact inner_nil
 have hal := alternate_ok l hlen
 by_cases h256 : 256 < l.length
 · have hA : pb (l.length ≤ 256 ∧ AltP l ∧ ∀ (i : Nat) (p : Pc), l[i]? = some p → (p.kind = 1 ∨ p.kind = 2) ∧ AloneP p) = false := pb_f fun h => by have := h.1; omega
   rw [hA]
   refine pur_code code65_ok ?_
   conv => whnf
   repeat' ((first | refine bt ?_ | refine bf ?_ | refine vb_t (by (first | omega | (simp only [ilt_t, ilt_f, ile_t, ile_f, ieq_t, ieq_f, ofn, List.length_map, Bool.not_eq_true', Bool.not_eq_false'] at *; omega))) ?_ | refine vl ?_ | fail) <;> conv => whnf)
   exact ⟨rfl, rfl⟩
 by_cases hAlt : AltP l
 · rw [pb_t hAlt] at hal
   have hnt : (!true) = false := rfl
   refine pur_code code65_ok ?_
   conv => whnf
   repeat' ((first | refine bt ?_ | refine bf ?_ | refine vb_f (by (first | omega | (simp only [ilt_t, ilt_f, ile_t, ile_f, ieq_t, ieq_f, ofn, List.length_map, Bool.not_eq_true', Bool.not_eq_false'] at *; omega))) ?_ | refine vpur_i hal ?_ | refine vl ?_ | fail) <;> conv => whnf)
   refine vloop_cnt (α := Unit) l.length (fun k _ => ∀ (i : Nat) (p : Pc), i < k → l[i]? = some p → (p.kind = 1 ∨ p.kind = 2) ∧ AloneP p) (fun k _ => [(3, I (k : Int))]) () (fun i p h => by omega) rfl ?_
   intro k _ hk hI
   conv => whnf
   by_cases hlt : k < l.length
   · obtain ⟨p, hp⟩ := get_in hlt
     have hg := iget_map (f := pcRow) hp
     have hl := lt_len (f := pcRow) hlt
     obtain ⟨hpo, hps, hpi⟩ := hall p (List.mem_of_getElem? hp)
     have hpc := piece_ok p hpo hps hpi
     have hit' : (p.kind = 1 ∨ p.kind = 2) ∧ AloneP p → ∀ (i : Nat) (p : Pc), i < k + 1 → l[i]? = some p → (p.kind = 1 ∨ p.kind = 2) ∧ AloneP p := fun h => upto_succ (P := fun i p => (p.kind = 1 ∨ p.kind = 2) ∧ AloneP p) hI hp h
     have hbad : ¬ ((p.kind = 1 ∨ p.kind = 2) ∧ AloneP p) → pb (l.length ≤ 256 ∧ AltP l ∧ ∀ (i : Nat) (p : Pc), l[i]? = some p → (p.kind = 1 ∨ p.kind = 2) ∧ AloneP p) = false := fun h => pb_f fun hL => h (hL.2.2 k p hp)
     clear hp hpo hps hpi
     cases p with
     | mk kd vn names t c vi inner =>
     repeat' ((first | refine bt ?_ | refine bf ?_ | refine vo_i hg ?_ | refine vpur_i hpc ?_ | refine vl ?_ | refine vb_i (fun h => ?_) (fun h => ?_) | fail) <;> conv => whnf)
     all_goals first
      | (refine ⟨retB (Eq.symm (hbad ?_)), rfl⟩; clear hit' hbad hg hpc hal hall; simp_all [Pc.kind, pb_iff, pb_ff, ieq_t, ieq_f, lit1, lit2]; done)
      | (refine ⟨⟨(k + 1, ()), (by omega), ?_⟩, (by simp only; omega), (by repeat' (first | exact rfl | exact slot_eq (I_eq (iadd_one (by omega))) | (refine cons_eq ?_ ?_) | assumption)), rfl, rfl, rfl⟩; refine hit' ?_; clear hit' hbad hg hpc hal hall; simp_all [Pc.kind, pb_iff, pb_ff, ieq_t, ieq_f, lit1, lit2]; done)
   · have hl := nlt_len (f := pcRow) hlt
     rw [pb_t ⟨by omega, hAlt, fun i p h => hI i p (by have := (List.getElem?_eq_some_iff.1 h).1; omega) h⟩]
     repeat' ((first | refine bt ?_ | refine bf ?_ | refine vb_f (by (first | omega | (simp only [ilt_t, ilt_f, ile_t, ile_f, ieq_t, ieq_f, ofn, List.length_map, Bool.not_eq_true', Bool.not_eq_false'] at *; omega))) ?_ | refine vl ?_ | fail) <;> conv => whnf)
     exact ⟨rfl, rfl⟩
 · rw [pb_f hAlt] at hal
   have hA : pb (l.length ≤ 256 ∧ AltP l ∧ ∀ (i : Nat) (p : Pc), l[i]? = some p → (p.kind = 1 ∨ p.kind = 2) ∧ AloneP p) = false := pb_f fun h => hAlt h.2.1
   rw [hA]
   have hnt : (!false) = true := rfl
   refine pur_code code65_ok ?_
   conv => whnf
   repeat' ((first | refine bt ?_ | refine bf ?_ | refine vb_f (by (first | omega | (simp only [ilt_t, ilt_f, ile_t, ile_f, ieq_t, ieq_f, ofn, List.length_map, Bool.not_eq_true', Bool.not_eq_false'] at *; omega))) ?_ | refine vpur_i hal ?_ | refine vl ?_ | fail) <;> conv => whnf)
   exact ⟨rfl, rfl⟩
end Go.Proofs.YtkljckbaenbjeaaGreatDoor.Ab
namespace Go.Proofs.YtkljckbaenbjeaaGreatDoor.Ab
open Go
set_option linter.unusedSimpArgs false
set_option maxRecDepth 100000
set_option linter.unusedVariables false
set_option maxHeartbeats 4000000
def FixP (p : Pc) : Prop := p.kind = 2 → fixedT p.t = true
def FixDP (p : Pc) : Prop := FixP p ∧ ∀ q ∈ p.inner, FixP q
def AllFixP (l : List Pc) : Prop := ∀ p ∈ l, FixDP p
theorem all_idx {l : List Pc} {P : Pc → Prop} (h : ∀ (i : Nat) (p : Pc), i < l.length → l[i]? = some p → P p) : ∀ p ∈ l, P p := fun p hp => by
 obtain ⟨i, hi⟩ := List.getElem?_of_mem hp
 exact h i p (List.getElem?_eq_some_iff.1 hi).1 hi
theorem rallFixed_ok (l : List Pc) (hs : SmP l) : Pur F0 66 [.d (.sl 11 (l.map pcRow))] [] .no (.ret (B (pb (AllFixP l)))) .no := by
 obtain ⟨hlen, hall⟩ := hs
 refine pur_code code66_ok ?_
 conv => whnf
 repeat' ((first | refine bt ?_ | refine bf ?_ | refine vl ?_ | fail) <;> conv => whnf)
 refine vloop_cnt (α := Unit) l.length (fun k _ => ∀ (i : Nat) (p : Pc), i < k → l[i]? = some p → FixDP p) (fun k _ => [(3, I (k : Int))]) () (fun i p h => by omega) rfl ?_
 intro k _ hk hI
 conv => whnf
 by_cases hlt : k < l.length
 · obtain ⟨p, hp⟩ := get_in hlt
   have hg := iget_map (f := pcRow) hp
   have hl := lt_len (f := pcRow) hlt
   obtain ⟨hpo, hps, hpi⟩ := hall p (List.mem_of_getElem? hp)
   have hnext : FixDP p → ∀ (i : Nat) (p : Pc), i < k + 1 → l[i]? = some p → FixDP p := fun h => upto_succ (P := fun _ p => FixDP p) hI hp h
   have hbad : ¬ FixDP p → pb (AllFixP l) = false := fun h => pb_f fun hL => h (hL p (List.mem_of_getElem? hp))
   clear hp hall hI
   cases hpo with
   | @mk kd vn names t c vi inner hn hi h0 =>
   obtain ⟨ak, an, bk, bn, fit, lk, ln⟩ := t
   have hfx := rfixed_ok ⟨ak, an, bk, bn, fit, lk, ln⟩
   by_cases hF : FixP (.mk kd vn names ⟨ak, an, bk, bn, fit, lk, ln⟩ c vi inner)
   · have hb2 : ∀ q ∈ inner, ¬ FixP q → pb (AllFixP l) = false := fun q hq h => hbad fun h1 => h (h1.2 q hq)
     have hn2 : (∀ q ∈ inner, FixP q) → ∀ (i : Nat) (p : Pc), i < k + 1 → l[i]? = some p → FixDP p := fun h => hnext ⟨hF, h⟩
     clear hbad hnext
     simp only [Pc.inner] at hpi
     cases hkd : ieq kd (Int.ofNat 2) with
     | true =>
      have hft : fixedT ⟨ak, an, bk, bn, fit, lk, ln⟩ = true := hF (by rw [ieq_t] at hkd; exact hkd)
      rw [hft] at hfx
      have hx : (!true) = false := rfl
      rcases hi with ⟨rfl, hi⟩ | rfl
      · have hi0 : inner = [] := List.map_eq_nil_iff.1 hi
        subst hi0
        repeat' ((first | refine bt ?_ | refine bf ?_ | refine vo_i hg ?_ | refine vpur_i hfx ?_ | refine vl ?_ | fail) <;> conv => whnf)
        refine vloop_cnt (α := Unit) 0 (fun _ _ => True) (fun k _ => [(4, I (k : Int))]) () trivial rfl ?_
        intro j _ hj _
        obtain rfl : j = 0 := by omega
        conv => whnf
        have hz : ilt ((0 : Nat) : Int) (0 : Int) = false := by rw [ilt_f]; omega
        repeat' ((first | refine bt ?_ | refine bf ?_ | refine vo_i hg ?_ | refine vb_f (by (first | omega | (simp only [ilt_t, ilt_f, ile_t, ile_f, ieq_t, ieq_f, ofn, List.length_map, Bool.not_eq_true', Bool.not_eq_false'] at *; omega))) ?_ | refine vl ?_ | fail) <;> conv => whnf)
        refine ⟨⟨(k + 1, ()), (by omega), ?_⟩, (by simp only; omega), (by repeat' (first | exact rfl | exact slot_eq (I_eq (iadd_one (by omega))) | (refine cons_eq ?_ ?_) | assumption)), rfl, rfl, rfl⟩
        simp only []
        exact hn2 fun q hq => by cases hq
      · repeat' ((first | refine bt ?_ | refine bf ?_ | refine vo_i hg ?_ | refine vpur_i hfx ?_ | refine vl ?_ | fail) <;> conv => whnf)
        refine vloop_cnt (α := Unit) inner.length (fun j _ => ∀ (i : Nat) (p : Pc), i < j → inner[i]? = some p → FixP p) (fun k _ => [(4, I (k : Int))]) () (fun i p h => by omega) rfl ?_
        intro j _ hj hJ
        conv => whnf
        by_cases hlj : j < inner.length
        · obtain ⟨q, hq⟩ := get_in hlj
          have hgq := iget_map (f := pcRow) hq
          have hlq := lt_len (f := pcRow) hlj
          have hbq := hb2 q (List.mem_of_getElem? hq)
          have hjn : FixP q → ∀ (i : Nat) (p : Pc), i < j + 1 → inner[i]? = some p → FixP p := fun h => upto_succ (P := fun _ p => FixP p) hJ hq h
          clear hq
          cases q with
          | mk kd2 vn2 names2 t2 c2 vi2 inner2 =>
          obtain ⟨ak2, an2, bk2, bn2, fit2, lk2, ln2⟩ := t2
          have hfq := rfixed_ok ⟨ak2, an2, bk2, bn2, fit2, lk2, ln2⟩
          cases hkq : ieq kd2 (Int.ofNat 2) with
          | false =>
           have hFq : FixP (.mk kd2 vn2 names2 ⟨ak2, an2, bk2, bn2, fit2, lk2, ln2⟩ c2 vi2 inner2) := fun h => by rw [ieq_f] at hkq; exact (hkq h).elim
           repeat' ((first | refine bt ?_ | refine bf ?_ | refine vo_i hg ?_ | refine vo_i hgq ?_ | refine vl ?_ | fail) <;> conv => whnf)
           exact ⟨⟨(j + 1, ()), (by omega), hjn hFq⟩, (by simp only; omega), (by repeat' (first | exact rfl | exact slot_eq (I_eq (iadd_one (by omega))) | (refine cons_eq ?_ ?_) | assumption)), rfl, rfl, rfl⟩
          | true =>
           cases hft2 : fixedT ⟨ak2, an2, bk2, bn2, fit2, lk2, ln2⟩ with
           | true =>
            rw [hft2] at hfq
            have hy : (!true) = false := rfl
            repeat' ((first | refine bt ?_ | refine bf ?_ | refine vo_i hg ?_ | refine vo_i hgq ?_ | refine vpur_i hfq ?_ | refine vl ?_ | fail) <;> conv => whnf)
            exact ⟨⟨(j + 1, ()), (by omega), hjn fun _ => hft2⟩, (by simp only; omega), (by repeat' (first | exact rfl | exact slot_eq (I_eq (iadd_one (by omega))) | (refine cons_eq ?_ ?_) | assumption)), rfl, rfl, rfl⟩
           | false =>
            rw [hft2] at hfq
            have hy : (!false) = true := rfl
            rw [hbq fun h => by have := h (by rw [ieq_t] at hkq; exact hkq); simp only [Pc.t] at this; rw [hft2] at this; cases this]
            repeat' ((first | refine bt ?_ | refine bf ?_ | refine vo_i hg ?_ | refine vo_i hgq ?_ | refine vpur_i hfq ?_ | refine vl ?_ | fail) <;> conv => whnf)
            exact ⟨rfl, rfl⟩
        · have hlq := nlt_len (f := pcRow) hlj
          have hall2 : ∀ q ∈ inner, FixP q := all_idx fun i p h h1 => hJ i p (by omega) h1
          repeat' ((first | refine bt ?_ | refine bf ?_ | refine vo_i hg ?_ | refine vb_f (by (first | omega | (simp only [ilt_t, ilt_f, ile_t, ile_f, ieq_t, ieq_f, ofn, List.length_map, Bool.not_eq_true', Bool.not_eq_false'] at *; omega))) ?_ | refine vl ?_ | fail) <;> conv => whnf)
          refine ⟨⟨(k + 1, ()), (by omega), ?_⟩, (by simp only; omega), (by repeat' (first | exact rfl | exact slot_eq (I_eq (iadd_one (by omega))) | (refine cons_eq ?_ ?_) | assumption)), rfl, rfl, rfl⟩
          simp only []
          exact hn2 hall2
     | false =>
      rcases hi with ⟨rfl, hi⟩ | rfl
      · have hi0 : inner = [] := List.map_eq_nil_iff.1 hi
        subst hi0
        repeat' ((first | refine bt ?_ | refine bf ?_ | refine vo_i hg ?_ | refine vl ?_ | fail) <;> conv => whnf)
        refine vloop_cnt (α := Unit) 0 (fun _ _ => True) (fun k _ => [(4, I (k : Int))]) () trivial rfl ?_
        intro j _ hj _
        obtain rfl : j = 0 := by omega
        conv => whnf
        have hz : ilt ((0 : Nat) : Int) (0 : Int) = false := by rw [ilt_f]; omega
        repeat' ((first | refine bt ?_ | refine bf ?_ | refine vo_i hg ?_ | refine vb_f (by (first | omega | (simp only [ilt_t, ilt_f, ile_t, ile_f, ieq_t, ieq_f, ofn, List.length_map, Bool.not_eq_true', Bool.not_eq_false'] at *; omega))) ?_ | refine vl ?_ | fail) <;> conv => whnf)
        refine ⟨⟨(k + 1, ()), (by omega), ?_⟩, (by simp only; omega), (by repeat' (first | exact rfl | exact slot_eq (I_eq (iadd_one (by omega))) | (refine cons_eq ?_ ?_) | assumption)), rfl, rfl, rfl⟩
        simp only []
        exact hn2 fun q hq => by cases hq
      · repeat' ((first | refine bt ?_ | refine bf ?_ | refine vo_i hg ?_ | refine vl ?_ | fail) <;> conv => whnf)
        refine vloop_cnt (α := Unit) inner.length (fun j _ => ∀ (i : Nat) (p : Pc), i < j → inner[i]? = some p → FixP p) (fun k _ => [(4, I (k : Int))]) () (fun i p h => by omega) rfl ?_
        intro j _ hj hJ
        conv => whnf
        by_cases hlj : j < inner.length
        · obtain ⟨q, hq⟩ := get_in hlj
          have hgq := iget_map (f := pcRow) hq
          have hlq := lt_len (f := pcRow) hlj
          have hbq := hb2 q (List.mem_of_getElem? hq)
          have hjn : FixP q → ∀ (i : Nat) (p : Pc), i < j + 1 → inner[i]? = some p → FixP p := fun h => upto_succ (P := fun _ p => FixP p) hJ hq h
          clear hq
          cases q with
          | mk kd2 vn2 names2 t2 c2 vi2 inner2 =>
          obtain ⟨ak2, an2, bk2, bn2, fit2, lk2, ln2⟩ := t2
          have hfq := rfixed_ok ⟨ak2, an2, bk2, bn2, fit2, lk2, ln2⟩
          cases hkq : ieq kd2 (Int.ofNat 2) with
          | false =>
           have hFq : FixP (.mk kd2 vn2 names2 ⟨ak2, an2, bk2, bn2, fit2, lk2, ln2⟩ c2 vi2 inner2) := fun h => by rw [ieq_f] at hkq; exact (hkq h).elim
           repeat' ((first | refine bt ?_ | refine bf ?_ | refine vo_i hg ?_ | refine vo_i hgq ?_ | refine vl ?_ | fail) <;> conv => whnf)
           exact ⟨⟨(j + 1, ()), (by omega), hjn hFq⟩, (by simp only; omega), (by repeat' (first | exact rfl | exact slot_eq (I_eq (iadd_one (by omega))) | (refine cons_eq ?_ ?_) | assumption)), rfl, rfl, rfl⟩
          | true =>
           cases hft2 : fixedT ⟨ak2, an2, bk2, bn2, fit2, lk2, ln2⟩ with
           | true =>
            rw [hft2] at hfq
            have hy : (!true) = false := rfl
            repeat' ((first | refine bt ?_ | refine bf ?_ | refine vo_i hg ?_ | refine vo_i hgq ?_ | refine vpur_i hfq ?_ | refine vl ?_ | fail) <;> conv => whnf)
            exact ⟨⟨(j + 1, ()), (by omega), hjn fun _ => hft2⟩, (by simp only; omega), (by repeat' (first | exact rfl | exact slot_eq (I_eq (iadd_one (by omega))) | (refine cons_eq ?_ ?_) | assumption)), rfl, rfl, rfl⟩
           | false =>
            rw [hft2] at hfq
            have hy : (!false) = true := rfl
            rw [hbq fun h => by have := h (by rw [ieq_t] at hkq; exact hkq); simp only [Pc.t] at this; rw [hft2] at this; cases this]
            repeat' ((first | refine bt ?_ | refine bf ?_ | refine vo_i hg ?_ | refine vo_i hgq ?_ | refine vpur_i hfq ?_ | refine vl ?_ | fail) <;> conv => whnf)
            exact ⟨rfl, rfl⟩
        · have hlq := nlt_len (f := pcRow) hlj
          have hall2 : ∀ q ∈ inner, FixP q := all_idx fun i p h h1 => hJ i p (by omega) h1
          repeat' ((first | refine bt ?_ | refine bf ?_ | refine vo_i hg ?_ | refine vb_f (by (first | omega | (simp only [ilt_t, ilt_f, ile_t, ile_f, ieq_t, ieq_f, ofn, List.length_map, Bool.not_eq_true', Bool.not_eq_false'] at *; omega))) ?_ | refine vl ?_ | fail) <;> conv => whnf)
          refine ⟨⟨(k + 1, ()), (by omega), ?_⟩, (by simp only; omega), (by repeat' (first | exact rfl | exact slot_eq (I_eq (iadd_one (by omega))) | (refine cons_eq ?_ ?_) | assumption)), rfl, rfl, rfl⟩
          simp only []
          exact hn2 hall2
   · have hk2 : kd = 2 ∧ fixedT ⟨ak, an, bk, bn, fit, lk, ln⟩ = false := by
      unfold FixP at hF
      simp only [Pc.kind, Pc.t] at hF
      by_cases e : kd = 2
      · exact ⟨e, by cases hc : fixedT ⟨ak, an, bk, bn, fit, lk, ln⟩ with | false => rfl | true => exact (hF fun _ => hc).elim⟩
      · exact (hF fun h => (e h).elim).elim
     obtain ⟨hk2, hft⟩ := hk2
     rw [hft] at hfx
     rw [hbad fun h => hF h.1]
     have hkd : ieq kd (Int.ofNat 2) = true := by rw [ieq_t]; exact hk2
     have hx : (!false) = true := rfl
     repeat' ((first | refine bt ?_ | refine bf ?_ | refine vo_i hg ?_ | refine vpur_i hfx ?_ | refine vl ?_ | fail) <;> conv => whnf)
     exact ⟨rfl, rfl⟩
 · have hl := nlt_len (f := pcRow) hlt
   have hA : AllFixP l := all_idx fun i p h h1 => hI i p (by omega) h1
   rw [pb_t hA]
   repeat' ((first | refine bt ?_ | refine bf ?_ | refine vb_f (by (first | omega | (simp only [ilt_t, ilt_f, ile_t, ile_f, ieq_t, ieq_f, ofn, List.length_map, Bool.not_eq_true', Bool.not_eq_false'] at *; omega))) ?_ | refine vl ?_ | fail) <;> conv => whnf)
   exact ⟨rfl, rfl⟩
end Go.Proofs.YtkljckbaenbjeaaGreatDoor.Ab
namespace Go.Proofs.YtkljckbaenbjeaaGreatDoor.Ab
open Go
set_option linter.unusedSimpArgs false
set_option maxRecDepth 100000
set_option linter.unusedVariables false
set_option maxHeartbeats 4000000
instance (k : Int) : Decidable (AutoK k) := inferInstanceAs (Decidable (k = 4 ∨ k = 5))
instance (k : Int) : Decidable (RepK k) := inferInstanceAs (Decidable (k = 3 ∨ AutoK k))
def innN : List Pc → Nat
 | [] => 0
 | p :: l => (if RepK p.kind then p.inner.length else 0) + innN l
def autN : List Pc → Nat
 | [] => 0
 | p :: l => (if AutoK p.kind then 1 else 0) + autN l
theorem innN_append (a b : List Pc) : innN (a ++ b) = innN a + innN b := by
 induction a with
 | nil => simp [innN]
 | cons p a ih => simp only [List.cons_append, innN, ih]; omega
theorem autN_append (a b : List Pc) : autN (a ++ b) = autN a + autN b := by
 induction a with
 | nil => simp [autN]
 | cons p a ih => simp only [List.cons_append, autN, ih]; omega
theorem take_snoc {l : List Pc} {k : Nat} {p : Pc} (hp : l[k]? = some p) : l.take (k + 1) = l.take k ++ [p] := by
 rw [List.take_add_one, hp]; rfl
theorem innN_succ {l : List Pc} {k : Nat} {p : Pc} (hp : l[k]? = some p) : innN (l.take (k + 1)) = innN (l.take k) + (if RepK p.kind then p.inner.length else 0) := by
 rw [take_snoc hp, innN_append]; simp [innN]
theorem autN_succ {l : List Pc} {k : Nat} {p : Pc} (hp : l[k]? = some p) : autN (l.take (k + 1)) = autN (l.take k) + (if AutoK p.kind then 1 else 0) := by
 rw [take_snoc hp, autN_append]; simp [autN]
theorem innN_le (l : List Pc) (k : Nat) : innN (l.take k) ≤ innN l := by
 have := innN_append (l.take k) (l.drop k)
 rw [List.take_append_drop] at this
 omega
theorem autN_pos {l : List Pc} : 0 < autN l ↔ ∃ p ∈ l, AutoK p.kind := by
 induction l with
 | nil => simp [autN]
 | cons p l ih =>
  simp only [autN, List.mem_cons, exists_eq_or_imp, ← ih]
  by_cases h : AutoK p.kind
  · simp [h]; omega
  · simp [h]
def RepOkP (p : Pc) : Prop := RepK p.kind → ListedP p.inner true
def GoodP (l : List Pc) : Prop := l = [] ∨ (ListedP l false ∧ (∀ p ∈ l, RepOkP p) ∧ l.length + innN l ≤ 256 ∧ autN l ≤ 1 ∧ (autN l = 1 → AllFixP l))
def Sm2 (l : List Pc) : Prop := SmP l ∧ ∀ p ∈ l, SmP p.inner
theorem listed_false {l : List Pc} : ListedP l false ↔ l.length ≤ 256 ∧ AltP l ∧ ∀ p ∈ l, AloneP p := by
 constructor
 · rintro ⟨h1, h2, h3⟩
   refine ⟨h3, ⟨fun i p hp => (h1 i p hp).2.2, h2⟩, fun p hp => ?_⟩
   obtain ⟨i, hi⟩ := List.getElem?_of_mem hp
   exact (h1 i p hi).1
 · rintro ⟨h1, ⟨h2, h3⟩, h4⟩
   exact ⟨fun i p hp => ⟨h4 p (List.mem_of_getElem? hp), (fun h => by cases h.1), h2 i p hp⟩, h3, h1⟩
theorem rtgood_nil : Pur F0 35 [.d .nilsl] [] .no (.ret (B true)) .no := pur_closed (n := 100) (by kernel_rfl)
theorem rtgood_nil2 : Pur F0 35 [.d (.sl 11 [])] [] .no (.ret (B true)) .no := pur_closed (n := 100) (by kernel_rfl)
theorem iadd_small {a b : Nat} (ha : a ≤ 2000000000) (hb : b ≤ 2000000000) : iadd .i64 (a : Int) (b : Int) = ((a + b : Nat) : Int) := by rw [iadd64 (by omega) (by omega)]; omega
theorem goodP_iff {l : List Pc} (h0 : l ≠ []) : GoodP l ↔ (l.length ≤ 256 ∧ AltP l) ∧ (∀ p ∈ l, AloneP p ∧ RepOkP p) ∧ l.length + innN l ≤ 256 ∧ autN l ≤ 1 ∧ (autN l = 1 → AllFixP l) := by
 unfold GoodP
 rw [listed_false]
 constructor
 · rintro (h | ⟨⟨h1, h2, h3⟩, h4, h5, h6⟩)
   · exact (h0 h).elim
   · exact ⟨⟨h1, h2⟩, fun p hp => ⟨h3 p hp, h4 p hp⟩, h5, h6⟩
 · rintro ⟨⟨h1, h2⟩, h3, h5, h6⟩
   exact .inr ⟨⟨h1, h2, fun p hp => (h3 p hp).1⟩, fun p hp => (h3 p hp).2, h5, h6⟩
theorem rtgood_ok (l : List Pc) (v : DV) (hv : SlV 11 (l.map pcRow) v) (hs : Sm2 l) : Pur F0 35 [.d v] [] .no (.ret (B (pb (GoodP l)))) .no := by
 obtain ⟨hs, hsi⟩ := hs
 have hs' := hs
 obtain ⟨hlen, hall⟩ := hs
 by_cases h0 : l = []
 · subst h0
   rw [pb_t (p := GoodP []) (.inl rfl)]
   rcases hv with ⟨rfl, _⟩ | rfl
   · exact rtgood_nil
   · exact rtgood_nil2
 rcases hv with ⟨rfl, hn⟩ | rfl
 · exact (h0 (List.map_eq_nil_iff.1 hn)).elim
 have hpos : 0 < l.length := List.length_pos_iff.2 h0
 have q0 : ieq ((l.map pcRow).length : Int) (Int.ofNat 0) = false := by rw [ieq_f, List.length_map, lit0]; omega
 have hal := alternate_ok l hlen
 by_cases h256 : 256 < l.length
 · have hA : pb (GoodP l) = false := pb_f fun h => by have := ((goodP_iff h0).1 h).1.1; omega
   rw [hA]
   refine pur_code code35_ok ?_
   conv => whnf
   repeat' ((first | refine bt ?_ | refine bf ?_ | refine vb_t (by (first | omega | (simp only [ilt_t, ilt_f, ile_t, ile_f, ieq_t, ieq_f, ofn, List.length_map, Bool.not_eq_true', Bool.not_eq_false'] at *; omega))) ?_ | refine vl ?_ | fail) <;> conv => whnf)
   exact ⟨rfl, rfl⟩
 have q1 : ilt (Int.ofNat 256) ((l.map pcRow).length : Int) = false := by rw [ilt_f, List.length_map]; show (_ : Int) ≤ 256; omega
 by_cases hAlt : AltP l
 · rw [pb_t hAlt] at hal
   have hnt : (!true) = false := rfl
   refine pur_code code35_ok ?_
   conv => whnf
   repeat' ((first | refine bt ?_ | refine bf ?_ | refine vpur_i hal ?_ | refine vl ?_ | fail) <;> conv => whnf)
   refine vloop_cnt (α := Nat × Nat) l.length (fun k x => x.1 = l.length + innN (l.take k) ∧ x.1 ≤ 256 ∧ x.2 = autN (l.take k) ∧ x.2 ≤ k ∧ ∀ (i : Nat) (p : Pc), i < k → l[i]? = some p → AloneP p ∧ RepOkP p) (fun k x => [(3, I (x.1 : Int)), (4, I (x.2 : Int)), (5, I (k : Int))]) (l.length, 0) ⟨by simp [innN], by simp only; omega, by simp [autN], Nat.le_refl _, fun i p h => by omega⟩ ?_ ?_
   · simp only [List.length_map]; rfl
   intro k x hk hI
   obtain ⟨n, a⟩ := x
   obtain ⟨hn, hn2, ha, ha2, hI⟩ := hI
   simp only at hn hn2 ha ha2
   conv => whnf
   by_cases hlt : k < l.length
   · obtain ⟨p, hp⟩ := get_in hlt
     have hg := iget_map (f := pcRow) hp
     have hl := lt_len (f := pcRow) hlt
     have hm := List.mem_of_getElem? hp
     obtain ⟨hpo, hps, hpi⟩ := hall p hm
     have hsq := hsi p hm
     have hpc := piece_ok p hpo hps hpi
     have hnext : AloneP p ∧ RepOkP p → ∀ (i : Nat) (p : Pc), i < k + 1 → l[i]? = some p → AloneP p ∧ RepOkP p := fun h => upto_succ (P := fun _ p => AloneP p ∧ RepOkP p) hI hp h
     have hbad : ¬ (AloneP p ∧ RepOkP p) → pb (GoodP l) = false := fun h => pb_f fun hL => h (((goodP_iff h0).1 hL).2.1 p hm)
     have hiN := innN_succ hp
     have haN := autN_succ hp
     have hle := innN_le l (k + 1)
     have hbig : 256 < l.length + innN (l.take (k + 1)) → pb (GoodP l) = false := fun h => pb_f fun hL => by have := ((goodP_iff h0).1 hL).2.2.1; omega
     clear hp hm hI hall hsi hps
     by_cases hAl : AloneP p
     · rw [pb_t hAl] at hpc
       by_cases hR : RepK p.kind
       · have hinn := hpo
         cases hinn with
         | @mk kd vn names t c vi inner hvn hvi h00 =>
         have hin := rinner_ok inner vi hvi hsq
         have hk1 : ieq kd (Int.ofNat 1) = false := by rw [ieq_f, lit1]; intro e; subst e; unfold RepK AutoK at hR; simp only [Pc.kind] at hR; omega
         have hk2 : ieq kd (Int.ofNat 2) = false := by rw [ieq_f, lit2]; intro e; subst e; unfold RepK AutoK at hR; simp only [Pc.kind] at hR; omega
         rw [if_pos hR] at hiN
         simp only [Pc.inner] at hiN hpi
         by_cases hL : ListedP inner true
         · rw [pb_t hL] at hin
           have hgd : AloneP (.mk kd vn names t c vi inner) ∧ RepOkP (.mk kd vn names t c vi inner) := ⟨hAl, fun _ => hL⟩
           by_cases hA : AutoK (Pc.mk kd vn names t c vi inner).kind
           · rw [if_pos hA] at haN
             have hk3 : (!ieq kd (Int.ofNat 3)) = true := by rw [Bool.not_eq_true', ieq_f, lit3]; intro e; subst e; unfold AutoK at hA; simp only [Pc.kind] at hA; omega
             have hx : (!true) = false := rfl
             rcases hvi with ⟨rfl, hvi⟩ | rfl
             · have hi0 : inner = [] := List.map_eq_nil_iff.1 hvi
               subst hi0
               have hadd : iadd .i64 (n : Int) 0 = (n : Int) := by rw [iadd64 (by omega) (by omega)]; omega
               have hlt2 : ilt (Int.ofNat 256) (iadd .i64 (n : Int) 0) = false := by rw [hadd, ilt_f]; show (_ : Int) ≤ 256; omega
               repeat' ((first | refine bt ?_ | refine bf ?_ | refine vo_i hg ?_ | refine vpur_i hpc ?_ | refine vpur_i hin ?_ | refine vl ?_ | fail) <;> conv => whnf)
               refine ⟨⟨(k + 1, (n, (a + 1))), (by omega), ?_⟩, (by simp only; omega), (by repeat' (first | exact rfl | exact slot_eq (I_eq hadd) | exact slot_eq (I_eq (iadd_one (by omega))) | (refine cons_eq ?_ ?_))), rfl, rfl, rfl⟩
               simp only [List.length_nil] at hiN
               simp only []
               exact ⟨by omega, by omega, by omega, by omega, hnext hgd⟩
             · have hadd : iadd .i64 (n : Int) ((inner.map pcRow).length : Int) = ((n + inner.length : Nat) : Int) := by rw [List.length_map]; exact iadd_small (by omega) (by omega)
               by_cases hb : 256 < n + inner.length
               · have hlt2 : ilt (Int.ofNat 256) (iadd .i64 (n : Int) ((inner.map pcRow).length : Int)) = true := by rw [hadd, ilt_t]; show ((256 : Int) < _); omega
                 rw [hbig (by omega)]
                 repeat' ((first | refine bt ?_ | refine bf ?_ | refine vo_i hg ?_ | refine vpur_i hpc ?_ | refine vpur_i hin ?_ | refine vl ?_ | fail) <;> conv => whnf)
                 exact ⟨rfl, rfl⟩
               · have hlt2 : ilt (Int.ofNat 256) (iadd .i64 (n : Int) ((inner.map pcRow).length : Int)) = false := by rw [hadd, ilt_f]; show (_ : Int) ≤ 256; omega
                 repeat' ((first | refine bt ?_ | refine bf ?_ | refine vo_i hg ?_ | refine vpur_i hpc ?_ | refine vpur_i hin ?_ | refine vl ?_ | fail) <;> conv => whnf)
                 refine ⟨⟨(k + 1, (n + inner.length, (a + 1))), (by omega), ?_⟩, (by simp only; omega), (by repeat' (first | exact rfl | exact slot_eq (I_eq hadd) | exact slot_eq (I_eq (iadd_one (by omega))) | (refine cons_eq ?_ ?_))), rfl, rfl, rfl⟩
                 simp only []
                 exact ⟨by omega, by omega, by omega, by omega, hnext hgd⟩
           · rw [if_neg hA] at haN
             have hk3 : (!ieq kd (Int.ofNat 3)) = false := by rw [Bool.not_eq_false', ieq_t, lit3]; exact hR.resolve_right hA
             have hx : (!true) = false := rfl
             rcases hvi with ⟨rfl, hvi⟩ | rfl
             · have hi0 : inner = [] := List.map_eq_nil_iff.1 hvi
               subst hi0
               have hadd : iadd .i64 (n : Int) 0 = (n : Int) := by rw [iadd64 (by omega) (by omega)]; omega
               have hlt2 : ilt (Int.ofNat 256) (iadd .i64 (n : Int) 0) = false := by rw [hadd, ilt_f]; show (_ : Int) ≤ 256; omega
               repeat' ((first | refine bt ?_ | refine bf ?_ | refine vo_i hg ?_ | refine vpur_i hpc ?_ | refine vpur_i hin ?_ | refine vl ?_ | fail) <;> conv => whnf)
               refine ⟨⟨(k + 1, (n, a)), (by omega), ?_⟩, (by simp only; omega), (by repeat' (first | exact rfl | exact slot_eq (I_eq hadd) | exact slot_eq (I_eq (iadd_one (by omega))) | (refine cons_eq ?_ ?_))), rfl, rfl, rfl⟩
               simp only [List.length_nil] at hiN
               simp only []
               exact ⟨by omega, by omega, by omega, by omega, hnext hgd⟩
             · have hadd : iadd .i64 (n : Int) ((inner.map pcRow).length : Int) = ((n + inner.length : Nat) : Int) := by rw [List.length_map]; exact iadd_small (by omega) (by omega)
               by_cases hb : 256 < n + inner.length
               · have hlt2 : ilt (Int.ofNat 256) (iadd .i64 (n : Int) ((inner.map pcRow).length : Int)) = true := by rw [hadd, ilt_t]; show ((256 : Int) < _); omega
                 rw [hbig (by omega)]
                 repeat' ((first | refine bt ?_ | refine bf ?_ | refine vo_i hg ?_ | refine vpur_i hpc ?_ | refine vpur_i hin ?_ | refine vl ?_ | fail) <;> conv => whnf)
                 exact ⟨rfl, rfl⟩
               · have hlt2 : ilt (Int.ofNat 256) (iadd .i64 (n : Int) ((inner.map pcRow).length : Int)) = false := by rw [hadd, ilt_f]; show (_ : Int) ≤ 256; omega
                 repeat' ((first | refine bt ?_ | refine bf ?_ | refine vo_i hg ?_ | refine vpur_i hpc ?_ | refine vpur_i hin ?_ | refine vl ?_ | fail) <;> conv => whnf)
                 refine ⟨⟨(k + 1, (n + inner.length, a)), (by omega), ?_⟩, (by simp only; omega), (by repeat' (first | exact rfl | exact slot_eq (I_eq hadd) | exact slot_eq (I_eq (iadd_one (by omega))) | (refine cons_eq ?_ ?_))), rfl, rfl, rfl⟩
                 simp only []
                 exact ⟨by omega, by omega, by omega, by omega, hnext hgd⟩
         · rw [pb_f hL] at hin
           have hz : (!false) = true := rfl
           rw [hbad fun h => hL (h.2 hR)]
           cases hk3 : (!ieq kd (Int.ofNat 3)) with
           | true =>
            repeat' ((first | refine bt ?_ | refine bf ?_ | refine vo_i hg ?_ | refine vpur_i hpc ?_ | refine vpur_i hin ?_ | refine vl ?_ | fail) <;> conv => whnf)
            exact ⟨rfl, rfl⟩
           | false =>
            repeat' ((first | refine bt ?_ | refine bf ?_ | refine vo_i hg ?_ | refine vpur_i hpc ?_ | refine vpur_i hin ?_ | refine vl ?_ | fail) <;> conv => whnf)
            exact ⟨rfl, rfl⟩
       · have hA : ¬ AutoK p.kind := fun h => hR (.inr h)
         rw [if_neg hR] at hiN
         rw [if_neg hA] at haN
         have hgd : AloneP p ∧ RepOkP p := ⟨hAl, fun h => (hR h).elim⟩
         have hk : p.kind = 1 ∨ p.kind = 2 := by
          unfold RepK AutoK at hR
          unfold AloneP AutoK at hAl
          omega
         cases p with
         | mk kd vn names t c vi inner =>
         simp only [Pc.kind] at hk
         rcases hk with rfl | rfl
         · have hk1 : ieq 1 (Int.ofNat 1) = true := by rw [ieq_t]; rfl
           repeat' ((first | refine bt ?_ | refine bf ?_ | refine vo_i hg ?_ | refine vpur_i hpc ?_ | refine vl ?_ | fail) <;> conv => whnf)
           refine ⟨⟨(k + 1, (n, a)), (by omega), ?_⟩, (by simp only; omega), (by repeat' (first | exact rfl | exact slot_eq (I_eq (iadd_one (by omega))) | (refine cons_eq ?_ ?_) | assumption)), rfl, rfl, rfl⟩
           simp only []
           exact ⟨by omega, by omega, by omega, by omega, hnext hgd⟩
         · have hk1 : ieq 2 (Int.ofNat 1) = false := by rw [ieq_f]; decide
           have hk2 : ieq 2 (Int.ofNat 2) = true := by rw [ieq_t]; rfl
           repeat' ((first | refine bt ?_ | refine bf ?_ | refine vo_i hg ?_ | refine vpur_i hpc ?_ | refine vl ?_ | fail) <;> conv => whnf)
           refine ⟨⟨(k + 1, (n, a)), (by omega), ?_⟩, (by simp only; omega), (by repeat' (first | exact rfl | exact slot_eq (I_eq (iadd_one (by omega))) | (refine cons_eq ?_ ?_) | assumption)), rfl, rfl, rfl⟩
           simp only []
           exact ⟨by omega, by omega, by omega, by omega, hnext hgd⟩
     · rw [pb_f hAl] at hpc
       have hz : (!false) = true := rfl
       rw [hbad fun h => hAl h.1]
       cases p with
       | mk kd vn names t c vi inner =>
       repeat' ((first | refine bt ?_ | refine bf ?_ | refine vo_i hg ?_ | refine vpur_i hpc ?_ | refine vl ?_ | fail) <;> conv => whnf)
       exact ⟨rfl, rfl⟩
   · have hl := nlt_len (f := pcRow) hlt
     have hkl : k = l.length := by omega
     subst hkl
     rw [List.take_length] at hn ha
     have hA : ∀ p ∈ l, AloneP p ∧ RepOkP p := all_idx fun i p h h1 => hI i p h h1
     have hG : GoodP l ↔ autN l ≤ 1 ∧ (autN l = 1 → AllFixP l) := by
      rw [goodP_iff h0]
      exact ⟨fun h => h.2.2.2, fun h => ⟨⟨by omega, hAlt⟩, hA, by omega, h⟩⟩
     rw [pb_congr hG]
     rcases Nat.lt_trichotomy a 1 with h1 | h1 | h1
     · have e0 : ieq (a : Int) (Int.ofNat 0) = true := by rw [ieq_t, lit0]; omega
       rw [pb_t ⟨by omega, fun h => by omega⟩]
       repeat' ((first | refine bt ?_ | refine bf ?_ | refine vb_f (by (first | omega | (simp only [ilt_t, ilt_f, ile_t, ile_f, ieq_t, ieq_f, ofn, List.length_map, Bool.not_eq_true', Bool.not_eq_false'] at *; omega))) ?_ | refine vl ?_ | fail) <;> conv => whnf)
       exact ⟨rfl, rfl⟩
     · have e0 : ieq (a : Int) (Int.ofNat 0) = false := by rw [ieq_f, lit0]; omega
       have e1 : ieq (a : Int) (Int.ofNat 1) = true := by rw [ieq_t, lit1]; omega
       have hf := rallFixed_ok l hs'
       have hpp : (autN l ≤ 1 ∧ (autN l = 1 → AllFixP l)) ↔ AllFixP l := ⟨fun h => h.2 (by omega), fun h => ⟨by omega, fun _ => h⟩⟩
       rw [pb_congr hpp]
       repeat' ((first | refine bt ?_ | refine bf ?_ | refine vb_f (by (first | omega | (simp only [ilt_t, ilt_f, ile_t, ile_f, ieq_t, ieq_f, ofn, List.length_map, Bool.not_eq_true', Bool.not_eq_false'] at *; omega))) ?_ | refine vpur_i hf ?_ | refine vl ?_ | fail) <;> conv => whnf)
       exact ⟨rfl, rfl⟩
     · have e0 : ieq (a : Int) (Int.ofNat 0) = false := by rw [ieq_f, lit0]; omega
       have e1 : ieq (a : Int) (Int.ofNat 1) = false := by rw [ieq_f, lit1]; omega
       rw [pb_f fun h => by have := h.1; omega]
       repeat' ((first | refine bt ?_ | refine bf ?_ | refine vb_f (by (first | omega | (simp only [ilt_t, ilt_f, ile_t, ile_f, ieq_t, ieq_f, ofn, List.length_map, Bool.not_eq_true', Bool.not_eq_false'] at *; omega))) ?_ | refine vl ?_ | fail) <;> conv => whnf)
       exact ⟨rfl, rfl⟩
 · rw [pb_f hAlt] at hal
   rw [pb_f fun h => hAlt ((goodP_iff h0).1 h).1.2]
   have hnt : (!false) = true := rfl
   refine pur_code code35_ok ?_
   conv => whnf
   repeat' ((first | refine bt ?_ | refine bf ?_ | refine vpur_i hal ?_ | refine vl ?_ | fail) <;> conv => whnf)
   exact ⟨rfl, rfl⟩
end Go.Proofs.YtkljckbaenbjeaaGreatDoor.Ab
namespace Go.Proofs.YtkljckbaenbjeaaGreatDoor.Ab
open Go
set_option linter.unusedSimpArgs false
set_option maxRecDepth 100000
set_option linter.unusedVariables false
set_option maxHeartbeats 4000000
def bc (b : Bool) : Obj := ⟨.mine, 4, .fix [.d (.bool b)]⟩
def slc (v : DV) : Obj := ⟨.mine, 22, .fix [.d v]⟩
def pco (p : Pc) : Obj := ⟨.mine, 43, .fix ((pcRow p).map .d)⟩
def rcd (n : Nat) (c : List AV) : Obj := ⟨.mine, 0, .lp n 0 c⟩
noncomputable def lzA (f : Bool) (p : Pc) : Bool := f || pb (AutoK p.kind)
noncomputable def lzB (a : Bool) (p : Pc) : Bool := a && pb (FixP p)
theorem lzround_ok (p : Pc) (f a : Bool) : CallsTo F0 (1048576 + 53) [.yld .opn 53 0, pcA p] [rcd 53 [.ptr 1 0, .ptr 2 0], bc f, bc a] .no
 ⟨.ret (B true), [rcd 53 [.ptr 1 0, .ptr 2 0], bc (lzA f p), bc (lzB a p), pco p], .no⟩ := by
 cases p with
 | mk kd vn names t c vi inner =>
 obtain ⟨ak, an, bk, bn, fit, lk, ln⟩ := t
 have hau := isAuto_ok kd
 have hfx := fixed_ok ⟨ak, an, bk, bn, fit, lk, ln⟩
 unfold lzA lzB
 cases hk : ieq kd (Int.ofNat 2) with
 | true =>
  have hk' : (!ieq kd (Int.ofNat 2)) = false := by rw [hk]; rfl
  have hF : pb (FixP (.mk kd vn names ⟨ak, an, bk, bn, fit, lk, ln⟩ c vi inner)) = fixedT ⟨ak, an, bk, bn, fit, lk, ln⟩ := by
   rw [ieq_t] at hk
   rw [Bool.eq_iff_iff, pb_iff]
   exact ⟨fun h => h hk, fun h _ => h⟩
  rw [hF]
  cases f <;> cases a
  all_goals refine calls_round round53_ok ?_
  all_goals conv => whnf
  repeat' ((first | refine bt ?_ | refine bf ?_ | refine vpur_i hau ?_ | refine vpur_i hfx ?_ | refine vl ?_ | fail) <;> conv => whnf)
  all_goals exact rfl
 | false =>
  have hk' : (!ieq kd (Int.ofNat 2)) = true := by rw [hk]; rfl
  have hF : pb (FixP (.mk kd vn names ⟨ak, an, bk, bn, fit, lk, ln⟩ c vi inner)) = true := pb_t fun h => by
   rw [ieq_f] at hk
   exact (hk h).elim
  rw [hF]
  cases f <;> cases a
  all_goals refine calls_round round53_ok ?_
  all_goals conv => whnf
  repeat' ((first | refine bt ?_ | refine bf ?_ | refine vpur_i hau ?_ | refine vpur_i hfx ?_ | refine vl ?_ | fail) <;> conv => whnf)
  all_goals exact rfl
def allP : List Pc → List Pc
 | [] => []
 | p :: l => p :: p.inner ++ allP l
theorem allP_append (a b : List Pc) : allP (a ++ b) = allP a ++ allP b := by
 induction a with
 | nil => rfl
 | cons p a ih => simp only [List.cons_append, allP, ih, List.append_assoc]
theorem allP_succ {l : List Pc} {k : Nat} {p : Pc} (hp : l[k]? = some p) : allP (l.take (k + 1)) = allP (l.take k) ++ (p :: p.inner) := by
 rw [take_snoc hp, allP_append]; simp [allP]
noncomputable def hz (v : DV) (l : List Pc) : Heap := [rcd 53 [.ptr 2 0, .ptr 3 0], slc v, bc (l.foldl lzA false), bc (l.foldl lzB true)]
theorem hz_succ {v : DV} {l : List Pc} {p : Pc} : hz v (l ++ [p]) = [rcd 53 [.ptr 2 0, .ptr 3 0], slc v, bc (lzA (l.foldl lzA false) p), bc (lzB (l.foldl lzB true) p)] := by
 unfold hz; rw [List.foldl_append, List.foldl_append]; rfl
theorem snoc_take {a : List Pc} {p q : Pc} {l : List Pc} {j : Nat} (hq : l[j]? = some q) : a ++ (p :: l.take (j + 1)) = (a ++ (p :: l.take j)) ++ [q] := by
 rw [take_snoc hq]; simp
theorem all1_ok (l : List Pc) (hlen : l.length ≤ 1000000) (hall : ∀ p ∈ l, PcOk p ∧ p.inner.length ≤ 1000000) : Drp F0 4 121 [.yld .opn 53 0, .ptr 1 0] (hz (.sl 11 (l.map pcRow)) []) .no (.ret (.tup [])) (hz (.sl 11 (l.map pcRow)) (allP l)) .no := by
 refine drp_code code121_ok ?_
 conv => whnf
 repeat' ((first | refine bt ?_ | refine bf ?_ | refine vl ?_ | fail) <;> conv => whnf)
 refine vloop_cnh (α := Unit) l.length (fun _ _ => True) (fun k _ => [(9, I (k : Int))]) (fun k _ => hz (.sl 11 (l.map pcRow)) (allP (l.take k))) () trivial rfl rfl ?_
 intro k _ hk _
 conv => whnf
 have hx : (!true) = false := rfl
 by_cases hlt : k < l.length
 · obtain ⟨p, hp⟩ := get_in hlt
   have hg := iget_map (f := pcRow) hp
   have hl := lt_len (f := pcRow) hlt
   obtain ⟨hpo, hpi⟩ := hall p (List.mem_of_getElem? hp)
   have hS := allP_succ hp
   clear hp hall
   have hR := lzround_ok p ((allP (l.take k)).foldl lzA false) ((allP (l.take k)).foldl lzB true)
   cases hpo with
   | @mk kd vn names t c vi inner hn hi h0 =>
   simp only [Pc.inner] at hpi hS
   rcases hi with ⟨rfl, hi⟩ | rfl
   · have hi0 : inner = [] := List.map_eq_nil_iff.1 hi
     subst hi0
     repeat' ((first | refine bt ?_ | refine bf ?_ | refine vo_i hg ?_ | refine vcall_i hR ?_ | refine vl ?_ | fail) <;> conv => whnf)
     refine vloop_cnh (α := Unit) 0 (fun _ _ => True) (fun j _ => [(20, I (j : Int))]) (fun j _ => hz (.sl 11 (l.map pcRow)) (allP (l.take k) ++ [.mk kd vn names t c .nilsl []])) () trivial rfl (hz_succ.trans rfl) ?_
     intro j _ hj _
     obtain rfl : j = 0 := by omega
     conv => whnf
     have hz0 : ilt ((0 : Nat) : Int) (0 : Int) = false := by rw [ilt_f]; omega
     repeat' ((first | refine bt ?_ | refine bf ?_ | refine vb_f (by (first | omega | (simp only [ilt_t, ilt_f, ile_t, ile_f, ieq_t, ieq_f, ofn, List.length_map, Bool.not_eq_true', Bool.not_eq_false'] at *; omega))) ?_ | refine vl ?_ | fail) <;> conv => whnf)
     exact ⟨⟨(k + 1, ()), (by omega), trivial⟩, (by simp only; omega), (by repeat' (first | exact rfl | exact slot_eq (I_eq (iadd_one (by omega))) | (refine cons_eq ?_ ?_) | assumption)), Eq.symm (Eq.trans (congrArg (hz _) hS) rfl), rfl, rfl⟩
   · repeat' ((first | refine bt ?_ | refine bf ?_ | refine vo_i hg ?_ | refine vcall_i hR ?_ | refine vl ?_ | fail) <;> conv => whnf)
     refine vloop_cnh (α := Unit) inner.length (fun _ _ => True) (fun j _ => [(20, I (j : Int))]) (fun j _ => hz (.sl 11 (l.map pcRow)) (allP (l.take k) ++ (.mk kd vn names t c (.sl 11 (inner.map pcRow)) inner :: inner.take j))) () trivial rfl (hz_succ.trans rfl) ?_
     intro j _ hj _
     conv => whnf
     by_cases hlj : j < inner.length
     · obtain ⟨q, hq⟩ := get_in hlj
       have hgq := iget_map (f := pcRow) hq
       have hlq := lt_len (f := pcRow) hlj
       have hE := snoc_take (a := allP (l.take k)) (p := .mk kd vn names t c (.sl 11 (inner.map pcRow)) inner) hq
       have hRq := lzround_ok q ((allP (l.take k) ++ (.mk kd vn names t c (.sl 11 (inner.map pcRow)) inner :: inner.take j)).foldl lzA false) ((allP (l.take k) ++ (.mk kd vn names t c (.sl 11 (inner.map pcRow)) inner :: inner.take j)).foldl lzB true)
       clear hq hR hS
       cases q with
       | mk kd2 vn2 names2 t2 c2 vi2 inner2 =>
       repeat' ((first | refine bt ?_ | refine bf ?_ | refine vo_i hgq ?_ | refine vcall_i hRq ?_ | refine vl ?_ | fail) <;> conv => whnf)
       exact ⟨⟨(j + 1, ()), (by omega), trivial⟩, (by simp only; omega), (by repeat' (first | exact rfl | exact slot_eq (I_eq (iadd_one (by omega))) | (refine cons_eq ?_ ?_) | assumption)), Eq.symm (Eq.trans (congrArg (hz _) hE) (hz_succ.trans rfl)), rfl, rfl⟩
     · have hlq := nlt_len (f := pcRow) hlj
       have e : inner.take j = inner := List.take_of_length_le (by omega)
       rw [e]
       repeat' ((first | refine bt ?_ | refine bf ?_ | refine vb_f (by (first | omega | (simp only [ilt_t, ilt_f, ile_t, ile_f, ieq_t, ieq_f, ofn, List.length_map, Bool.not_eq_true', Bool.not_eq_false'] at *; omega))) ?_ | refine vl ?_ | fail) <;> conv => whnf)
       exact ⟨⟨(k + 1, ()), (by omega), trivial⟩, (by simp only; omega), (by repeat' (first | exact rfl | exact slot_eq (I_eq (iadd_one (by omega))) | (refine cons_eq ?_ ?_) | assumption)), Eq.symm (Eq.trans (congrArg (hz _) hS) rfl), rfl, rfl⟩
 · have hl := nlt_len (f := pcRow) hlt
   have e : l.take k = l := List.take_of_length_le (by omega)
   rw [e]
   repeat' ((first | refine bt ?_ | refine bf ?_ | refine vb_f (by (first | omega | (simp only [ilt_t, ilt_f, ile_t, ile_f, ieq_t, ieq_f, ofn, List.length_map, Bool.not_eq_true', Bool.not_eq_false'] at *; omega))) ?_ | refine vl ?_ | fail) <;> conv => whnf)
   exact ⟨rfl, rfl, rfl⟩
theorem foldA {l : List Pc} : ∀ {b : Bool}, l.foldl lzA b = (b || pb (∃ p ∈ l, AutoK p.kind)) := by
 induction l with
 | nil => intro b; rw [pb_f (by simp)]; simp
 | cons p l ih =>
  intro b
  rw [List.foldl_cons, ih, lzA, Bool.eq_iff_iff]
  simp [pb_iff, or_assoc]
theorem foldB {l : List Pc} : ∀ {b : Bool}, l.foldl lzB b = (b && pb (∀ p ∈ l, FixP p)) := by
 induction l with
 | nil => intro b; rw [pb_t (by simp)]; simp
 | cons p l ih =>
  intro b
  rw [List.foldl_cons, ih, lzB, Bool.eq_iff_iff]
  simp [pb_iff, and_assoc]
def LooseP (l : List Pc) : Prop := (∃ p ∈ allP l, AutoK p.kind) ∧ ¬ ∀ p ∈ allP l, FixP p
theorem hz_end {v : DV} {l : List Pc} : hz v l = [rcd 53 [.ptr 2 0, .ptr 3 0], slc v, bc (pb (∃ p ∈ l, AutoK p.kind)), bc (pb (∀ p ∈ l, FixP p))] := by
 unfold hz; rw [foldA, foldB]; rfl
theorem all_ok (v : DV) : CallsTo F0 94 [.d v] [] .no ⟨.ret (.fn .drop 121 [] [.ptr 0 0]), [slc v], .no⟩ := by
 refine calls_code code94_ok ?_
 conv => whnf
 repeat' ((first | refine bt ?_ | refine bf ?_ | refine vl ?_ | fail) <;> conv => whnf)
 exact rfl
theorem loose_ok (l : List Pc) (hlen : l.length ≤ 1000000) (hall : ∀ p ∈ l, PcOk p ∧ p.inner.length ≤ 1000000) : Pur F0 53 [.d (.sl 11 (l.map pcRow))] [] .no (.ret (B (pb (LooseP l)))) .no := by
 have h1 := all1_ok l hlen hall
 have h0 : hz (.sl 11 (l.map pcRow)) [] = [rcd 53 [.ptr 2 0, .ptr 3 0], slc (.sl 11 (l.map pcRow)), bc false, bc true] := rfl
 rw [h0, hz_end] at h1
 have hL : pb (LooseP l) = (pb (∃ p ∈ allP l, AutoK p.kind) && !pb (∀ p ∈ allP l, FixP p)) := by
  rw [Bool.eq_iff_iff]
  simp only [LooseP, pb_iff, Bool.and_eq_true, Bool.not_eq_true', pb_ff]
 rw [hL]
 generalize pb (∃ p ∈ allP l, AutoK p.kind) = x at h1 ⊢
 generalize pb (∀ p ∈ allP l, FixP p) = y at h1 ⊢
 cases x <;> cases y
 all_goals refine pur_code code53_ok ?_
 all_goals conv => whnf
 repeat' ((first | refine bt ?_ | refine bf ?_ | refine vcall_i (all_ok _) ?_ | refine vdrp_i h1 ?_ | refine vl ?_ | fail) <;> conv => whnf)
 all_goals exact ⟨rfl, rfl⟩
end Go.Proofs.YtkljckbaenbjeaaGreatDoor.Ab
namespace Go.Proofs.YtkljckbaenbjeaaGreatDoor.Ab
open Go
set_option linter.unusedSimpArgs false
set_option maxRecDepth 100000
set_option linter.unusedVariables false
set_option maxHeartbeats 4000000
theorem mem_allP {l : List Pc} {q : Pc} : q ∈ allP l ↔ ∃ p ∈ l, q = p ∨ q ∈ p.inner := by
 induction l with
 | nil => simp [allP]
 | cons p l ih => simp only [allP, List.cons_append, List.mem_cons, List.mem_append, ih, exists_eq_or_imp, or_assoc]
theorem allP_fix {l : List Pc} : (∀ p ∈ allP l, FixP p) ↔ AllFixP l := by
 constructor
 · intro h p hp
   exact ⟨h p (mem_allP.2 ⟨p, hp, .inl rfl⟩), fun q hq => h q (mem_allP.2 ⟨p, hp, .inr hq⟩)⟩
 · intro h q hq
   obtain ⟨p, hp, rfl | hq⟩ := mem_allP.1 hq
   · exact (h q hp).1
   · exact (h p hp).2 q hq
theorem alone_inner {p : Pc} (h : AloneP p) (hr : ¬ RepK p.kind) : p.inner = [] := by
 rcases h with ⟨_, _, h, _⟩ | ⟨_, _, _, h, _⟩ | ⟨h, _⟩ | ⟨h, _⟩
 · exact h
 · exact h
 · exact (hr (.inl h)).elim
 · exact (hr (.inr h)).elim
theorem allP_auto {l : List Pc} (h1 : ListedP l false) (h2 : ∀ p ∈ l, RepOkP p) : (∃ p ∈ allP l, AutoK p.kind) ↔ 0 < autN l := by
 rw [autN_pos]
 constructor
 · rintro ⟨q, hq, ha⟩
   obtain ⟨p, hp, rfl | hq⟩ := mem_allP.1 hq
   · exact ⟨q, hp, ha⟩
   · by_cases hr : RepK p.kind
     · obtain ⟨i, hi⟩ := List.getElem?_of_mem hq
       exact ((((h2 p hp) hr).1 i q hi).2.1 ⟨rfl, .inr ha⟩).elim
     · obtain ⟨i, hi⟩ := List.getElem?_of_mem hp
       rw [alone_inner (h1.1 i p hi).1 hr] at hq
       cases hq
 · rintro ⟨p, hp, ha⟩
   exact ⟨p, mem_allP.2 ⟨p, hp, .inl rfl⟩, ha⟩
theorem listed_nil : Pur F0 55 [.d .nilsl, B true] [] .no (.ret (B false)) .no := pur_closed (n := 100) (by kernel_rfl)
theorem listedN_ok (l : List Pc) (v : DV) (hv : SlV 11 (l.map pcRow) v) (hs : SmP l) : Pur F0 55 [.d v, B true] [] .no (.ret (B (pb (ListedP l true)))) .no := by
 rcases hv with ⟨rfl, hn⟩ | rfl
 · obtain rfl : l = [] := List.map_eq_nil_iff.1 hn
   rw [pb_f (fun h => by obtain ⟨i, p, h, _⟩ := h.2.1; simp at h)]
   exact listed_nil
 · exact listed_ok l true hs
theorem tgood_nil : Pur F0 27 [.d .nilsl] [] .no (.ret (B true)) .no := pur_closed (n := 100) (by kernel_rfl)
theorem tgood_nil2 : Pur F0 27 [.d (.sl 11 [])] [] .no (.ret (B true)) .no := pur_closed (n := 100) (by kernel_rfl)
theorem goodP_ne {l : List Pc} (h0 : l ≠ []) : GoodP l ↔ ListedP l false ∧ (∀ p ∈ l, RepOkP p) ∧ l.length + innN l ≤ 256 ∧ autN l ≤ 1 ∧ (autN l = 1 → AllFixP l) :=
 ⟨fun h => h.resolve_left h0, .inr⟩
theorem tgood_ok (l : List Pc) (v : DV) (hv : SlV 11 (l.map pcRow) v) (hs : Sm2 l) : Pur F0 27 [.d v] [] .no (.ret (B (pb (GoodP l)))) .no := by
 obtain ⟨hs, hsi⟩ := hs
 have hs' := hs
 obtain ⟨hlen, hall⟩ := hs
 by_cases h0 : l = []
 · subst h0
   rw [pb_t (p := GoodP []) (.inl rfl)]
   rcases hv with ⟨rfl, _⟩ | rfl
   · exact tgood_nil
   · exact tgood_nil2
 rcases hv with ⟨rfl, hn⟩ | rfl
 · exact (h0 (List.map_eq_nil_iff.1 hn)).elim
 have hpos : 0 < l.length := List.length_pos_iff.2 h0
 have q0 : ieq ((l.map pcRow).length : Int) (Int.ofNat 0) = false := by rw [ieq_f, List.length_map, lit0]; omega
 have hal := listed_ok l false hs'
 by_cases hLi : ListedP l false
 · rw [pb_t hLi] at hal
   have hnt : (!true) = false := rfl
   have h256 := hLi.2.2
   refine pur_code code27_ok ?_
   conv => whnf
   repeat' ((first | refine bt ?_ | refine bf ?_ | refine vpur_i hal ?_ | refine vl ?_ | fail) <;> conv => whnf)
   refine vloop_cnt (α := Nat × Nat) l.length (fun k x => x.1 = l.length + innN (l.take k) ∧ x.1 ≤ 256 ∧ x.2 = autN (l.take k) ∧ x.2 ≤ k ∧ ∀ (i : Nat) (p : Pc), i < k → l[i]? = some p → RepOkP p) (fun k x => [(3, I (x.1 : Int)), (4, I (x.2 : Int)), (17, I (k : Int))]) (l.length, 0) ⟨by simp [innN], by simp only; omega, by simp [autN], Nat.le_refl _, fun i p h => by omega⟩ ?_ ?_
   · simp only [List.length_map]; rfl
   intro k x hk hI
   obtain ⟨n, a⟩ := x
   obtain ⟨hn, hn2, ha, ha2, hI⟩ := hI
   simp only at hn hn2 ha ha2
   conv => whnf
   by_cases hlt : k < l.length
   · obtain ⟨p, hp⟩ := get_in hlt
     have hg := iget_map (f := pcRow) hp
     have hl := lt_len (f := pcRow) hlt
     have hm := List.mem_of_getElem? hp
     obtain ⟨hpo, hps, hpi⟩ := hall p hm
     have hsq := hsi p hm
     have hre := isRepeat_ok p.kind
     have hau := isAuto_ok p.kind
     have hnext : RepOkP p → ∀ (i : Nat) (p : Pc), i < k + 1 → l[i]? = some p → RepOkP p := fun h => upto_succ (P := fun _ p => RepOkP p) hI hp h
     have hbad : ¬ RepOkP p → pb (GoodP l) = false := fun h => pb_f fun hL => h (((goodP_ne h0).1 hL).2.1 p hm)
     have hiN := innN_succ hp
     have haN := autN_succ hp
     have hle := innN_le l (k + 1)
     have hbig : 256 < l.length + innN (l.take (k + 1)) → pb (GoodP l) = false := fun h => pb_f fun hL => by have := ((goodP_ne h0).1 hL).2.2.1; omega
     clear hp hm hI hall hsi hps
     by_cases hR : RepK p.kind
     · rw [pb_t hR] at hre
       cases hpo with
       | @mk kd vn names t c vi inner hvn hvi h00 =>
       have hin := listedN_ok inner vi hvi hsq
       rw [if_pos hR] at hiN
       simp only [Pc.inner] at hiN hpi
       simp only [Pc.kind] at hre hau
       by_cases hA : AutoK kd
       · rw [if_pos (c := AutoK (Pc.mk kd vn names t c vi inner).kind) hA] at haN
         rw [pb_t hA] at hau
         have hx : (!true) = false := rfl
         have hz : (!false) = true := rfl
         by_cases hL : ListedP inner true
         · rw [pb_t hL] at hin
           rcases hvi with ⟨rfl, hvi⟩ | rfl
           · have hi0 : inner = [] := List.map_eq_nil_iff.1 hvi
             subst hi0
             exact (by obtain ⟨i, p, h, _⟩ := hL.2.1; simp at h)
           · have hadd : iadd .i64 (n : Int) ((inner.map pcRow).length : Int) = ((n + inner.length : Nat) : Int) := by rw [List.length_map]; exact iadd_small (by omega) (by omega)
             by_cases hb : 256 < n + inner.length
             · have hlt2 : ilt (Int.ofNat 256) (iadd .i64 (n : Int) ((inner.map pcRow).length : Int)) = true := by rw [hadd, ilt_t]; show ((256 : Int) < _); omega
               rw [hbig (by omega)]
               repeat' ((first | refine bt ?_ | refine bf ?_ | refine vo_i hg ?_ | refine vpur_i hre ?_ | refine vpur_i hau ?_ | refine vpur_i hin ?_ | refine vl ?_ | fail) <;> conv => whnf)
               exact ⟨rfl, rfl⟩
             · have hlt2 : ilt (Int.ofNat 256) (iadd .i64 (n : Int) ((inner.map pcRow).length : Int)) = false := by rw [hadd, ilt_f]; show (_ : Int) ≤ 256; omega
               repeat' ((first | refine bt ?_ | refine bf ?_ | refine vo_i hg ?_ | refine vpur_i hre ?_ | refine vpur_i hau ?_ | refine vpur_i hin ?_ | refine vl ?_ | fail) <;> conv => whnf)
               refine ⟨⟨(k + 1, (n + inner.length, (a + 1))), (by omega), ?_⟩, (by simp only; omega), (by repeat' (first | exact rfl | exact slot_eq (I_eq hadd) | exact slot_eq (I_eq (iadd_one (by omega))) | (refine cons_eq ?_ ?_))), rfl, rfl, rfl⟩
               simp only []
               exact ⟨by omega, by omega, by omega, by omega, hnext fun _ => hL⟩
         · rw [pb_f hL] at hin
           rw [hbad fun h => hL (h hR)]
           rcases hvi with ⟨rfl, hvi⟩ | rfl
           · have hi0 : inner = [] := List.map_eq_nil_iff.1 hvi
             subst hi0
             have hadd : iadd .i64 (n : Int) 0 = (n : Int) := by rw [iadd64 (by omega) (by omega)]; omega
             have hlt2 : ilt (Int.ofNat 256) (iadd .i64 (n : Int) 0) = false := by rw [hadd, ilt_f]; show (_ : Int) ≤ 256; omega
             repeat' ((first | refine bt ?_ | refine bf ?_ | refine vo_i hg ?_ | refine vpur_i hre ?_ | refine vpur_i hau ?_ | refine vpur_i hin ?_ | refine vl ?_ | fail) <;> conv => whnf)
             exact ⟨rfl, rfl⟩
           · cases hlt2 : ilt (Int.ofNat 256) (iadd .i64 (n : Int) ((inner.map pcRow).length : Int)) with
             | true =>
              repeat' ((first | refine bt ?_ | refine bf ?_ | refine vo_i hg ?_ | refine vpur_i hre ?_ | refine vpur_i hau ?_ | refine vpur_i hin ?_ | refine vl ?_ | fail) <;> conv => whnf)
              exact ⟨rfl, rfl⟩
             | false =>
              repeat' ((first | refine bt ?_ | refine bf ?_ | refine vo_i hg ?_ | refine vpur_i hre ?_ | refine vpur_i hau ?_ | refine vpur_i hin ?_ | refine vl ?_ | fail) <;> conv => whnf)
              exact ⟨rfl, rfl⟩
       · rw [if_neg (c := AutoK (Pc.mk kd vn names t c vi inner).kind) hA] at haN
         rw [pb_f hA] at hau
         have hx : (!true) = false := rfl
         have hz : (!false) = true := rfl
         by_cases hL : ListedP inner true
         · rw [pb_t hL] at hin
           rcases hvi with ⟨rfl, hvi⟩ | rfl
           · have hi0 : inner = [] := List.map_eq_nil_iff.1 hvi
             subst hi0
             exact (by obtain ⟨i, p, h, _⟩ := hL.2.1; simp at h)
           · have hadd : iadd .i64 (n : Int) ((inner.map pcRow).length : Int) = ((n + inner.length : Nat) : Int) := by rw [List.length_map]; exact iadd_small (by omega) (by omega)
             by_cases hb : 256 < n + inner.length
             · have hlt2 : ilt (Int.ofNat 256) (iadd .i64 (n : Int) ((inner.map pcRow).length : Int)) = true := by rw [hadd, ilt_t]; show ((256 : Int) < _); omega
               rw [hbig (by omega)]
               repeat' ((first | refine bt ?_ | refine bf ?_ | refine vo_i hg ?_ | refine vpur_i hre ?_ | refine vpur_i hau ?_ | refine vpur_i hin ?_ | refine vl ?_ | fail) <;> conv => whnf)
               exact ⟨rfl, rfl⟩
             · have hlt2 : ilt (Int.ofNat 256) (iadd .i64 (n : Int) ((inner.map pcRow).length : Int)) = false := by rw [hadd, ilt_f]; show (_ : Int) ≤ 256; omega
               repeat' ((first | refine bt ?_ | refine bf ?_ | refine vo_i hg ?_ | refine vpur_i hre ?_ | refine vpur_i hau ?_ | refine vpur_i hin ?_ | refine vl ?_ | fail) <;> conv => whnf)
               refine ⟨⟨(k + 1, (n + inner.length, a)), (by omega), ?_⟩, (by simp only; omega), (by repeat' (first | exact rfl | exact slot_eq (I_eq hadd) | exact slot_eq (I_eq (iadd_one (by omega))) | (refine cons_eq ?_ ?_))), rfl, rfl, rfl⟩
               simp only []
               exact ⟨by omega, by omega, by omega, by omega, hnext fun _ => hL⟩
         · rw [pb_f hL] at hin
           rw [hbad fun h => hL (h hR)]
           rcases hvi with ⟨rfl, hvi⟩ | rfl
           · have hi0 : inner = [] := List.map_eq_nil_iff.1 hvi
             subst hi0
             have hadd : iadd .i64 (n : Int) 0 = (n : Int) := by rw [iadd64 (by omega) (by omega)]; omega
             have hlt2 : ilt (Int.ofNat 256) (iadd .i64 (n : Int) 0) = false := by rw [hadd, ilt_f]; show (_ : Int) ≤ 256; omega
             repeat' ((first | refine bt ?_ | refine bf ?_ | refine vo_i hg ?_ | refine vpur_i hre ?_ | refine vpur_i hau ?_ | refine vpur_i hin ?_ | refine vl ?_ | fail) <;> conv => whnf)
             exact ⟨rfl, rfl⟩
           · cases hlt2 : ilt (Int.ofNat 256) (iadd .i64 (n : Int) ((inner.map pcRow).length : Int)) with
             | true =>
              repeat' ((first | refine bt ?_ | refine bf ?_ | refine vo_i hg ?_ | refine vpur_i hre ?_ | refine vpur_i hau ?_ | refine vpur_i hin ?_ | refine vl ?_ | fail) <;> conv => whnf)
              exact ⟨rfl, rfl⟩
             | false =>
              repeat' ((first | refine bt ?_ | refine bf ?_ | refine vo_i hg ?_ | refine vpur_i hre ?_ | refine vpur_i hau ?_ | refine vpur_i hin ?_ | refine vl ?_ | fail) <;> conv => whnf)
              exact ⟨rfl, rfl⟩
     · have hA : ¬ AutoK p.kind := fun h => hR (.inr h)
       rw [if_neg hR] at hiN
       rw [if_neg hA] at haN
       rw [pb_f hR] at hre
       have hgd : RepOkP p := fun h => (hR h).elim
       have hz : (!false) = true := rfl
       cases p with
       | mk kd vn names t c vi inner =>
       simp only [Pc.kind] at hre hau
       repeat' ((first | refine bt ?_ | refine bf ?_ | refine vo_i hg ?_ | refine vpur_i hre ?_ | refine vl ?_ | fail) <;> conv => whnf)
       refine ⟨⟨(k + 1, (n, a)), (by omega), ?_⟩, (by simp only; omega), (by repeat' (first | exact rfl | exact slot_eq (I_eq (iadd_one (by omega))) | (refine cons_eq ?_ ?_) | assumption)), rfl, rfl, rfl⟩
       simp only []
       exact ⟨by omega, by omega, by omega, by omega, hnext hgd⟩
   · have hl := nlt_len (f := pcRow) hlt
     have hkl : k = l.length := by omega
     subst hkl
     rw [List.take_length] at hn ha
     have hA : ∀ p ∈ l, RepOkP p := all_idx fun i p h h1 => hI i p h h1
     have hloo := loose_ok l hlen fun p hp => ⟨(hall p hp).1, (hall p hp).2.2⟩
     have hLo : LooseP l ↔ 0 < autN l ∧ ¬ AllFixP l := by unfold LooseP; rw [allP_fix, allP_auto hLi hA]
     have hG : GoodP l ↔ a ≤ 1 ∧ ¬ LooseP l := by
      rw [goodP_ne h0, hLo, ha]
      constructor
      · rintro ⟨_, _, _, h4, h5⟩
        exact ⟨h4, fun ⟨h6, h7⟩ => h7 (h5 (by omega))⟩
      · rintro ⟨h4, h5⟩
        exact ⟨hLi, hA, by omega, h4, fun h6 => Classical.byContradiction fun h7 => h5 ⟨by omega, h7⟩⟩
     rw [pb_congr hG]
     by_cases h1 : a ≤ 1
     · have e1 : ile (a : Int) (Int.ofNat 1) = true := by rw [ile_t, lit1]; omega
       by_cases hL : LooseP l
       · rw [pb_f fun h => h.2 hL]
         rw [pb_t hL] at hloo
         repeat' ((first | refine bt ?_ | refine bf ?_ | refine vb_f (by (first | omega | (simp only [ilt_t, ilt_f, ile_t, ile_f, ieq_t, ieq_f, ofn, List.length_map, Bool.not_eq_true', Bool.not_eq_false'] at *; omega))) ?_ | refine vpur_i hloo ?_ | refine vl ?_ | fail) <;> conv => whnf)
         exact ⟨rfl, rfl⟩
       · rw [pb_t ⟨h1, hL⟩]
         rw [pb_f hL] at hloo
         repeat' ((first | refine bt ?_ | refine bf ?_ | refine vb_f (by (first | omega | (simp only [ilt_t, ilt_f, ile_t, ile_f, ieq_t, ieq_f, ofn, List.length_map, Bool.not_eq_true', Bool.not_eq_false'] at *; omega))) ?_ | refine vpur_i hloo ?_ | refine vl ?_ | fail) <;> conv => whnf)
         exact ⟨rfl, rfl⟩
     · have e1 : ile (a : Int) (Int.ofNat 1) = false := by rw [ile_f, lit1]; omega
       rw [pb_f fun h => h1 h.1]
       repeat' ((first | refine bt ?_ | refine bf ?_ | refine vb_f (by (first | omega | (simp only [ilt_t, ilt_f, ile_t, ile_f, ieq_t, ieq_f, ofn, List.length_map, Bool.not_eq_true', Bool.not_eq_false'] at *; omega))) ?_ | refine vl ?_ | fail) <;> conv => whnf)
       exact ⟨rfl, rfl⟩
 · rw [pb_f hLi] at hal
   rw [pb_f fun h => hLi ((goodP_ne h0).1 h).1]
   have hnt : (!false) = true := rfl
   refine pur_code code27_ok ?_
   conv => whnf
   repeat' ((first | refine bt ?_ | refine bf ?_ | refine vpur_i hal ?_ | refine vl ?_ | fail) <;> conv => whnf)
   exact ⟨rfl, rfl⟩
end Go.Proofs.YtkljckbaenbjeaaGreatDoor.Ab
namespace Go.Proofs.YtkljckbaenbjeaaGreatDoor.Ab
open Go
set_option linter.unusedSimpArgs false
set_option maxRecDepth 100000
set_option linter.unusedVariables false
set_option maxHeartbeats 4000000
def LiN (l : List (List UInt8)) : Prop := l.length ≤ 30 ∧ ∀ s ∈ l, s.length ≤ 100
def LiQ (q : Pc) : Prop := LiN q.names ∧ q.inner = []
def LiP (p : Pc) : Prop := LiN p.names ∧ p.inner.length ≤ 400 ∧ ∀ q ∈ p.inner, LiQ q
def LightP (l : List Pc) : Prop := l.length ≤ 400 ∧ ∀ p ∈ l, LiP p
theorem lt_idx {α : Type} {l : List α} {P : α → Prop} (h : ∀ (i : Nat) (p : α), i < l.length → l[i]? = some p → P p) : ∀ p ∈ l, P p := fun p hp => by
 obtain ⟨i, hi⟩ := List.getElem?_of_mem hp
 exact h i p (List.getElem?_eq_some_iff.1 hi).1 hi
theorem light_le {y : Int} (h : ilt (Int.ofNat 400) y = false) : y ≤ 400 := by rw [ilt_f] at h; exact h
theorem light_num {k : Nat} {x a : Int} (h1 : (k : Int) ≤ x) (h2 : x ≤ 400) (h3 : 0 ≤ a) (h4 : ilt (Int.ofNat 400) (iadd IntKind.i64 x (iadd IntKind.i64 (Int.ofNat 1) (imin a (Int.ofNat 1000)))) = false) :
 ((k + 1 : Nat) : Int) ≤ iadd IntKind.i64 x (iadd IntKind.i64 (Int.ofNat 1) (imin a (Int.ofNat 1000))) ∧ a ≤ 400 := by
 have h5 := light_le h4
 have e1000 : Int.ofNat 1000 = 1000 := rfl
 have hm : 0 ≤ imin a (Int.ofNat 1000) ∧ imin a (Int.ofNat 1000) ≤ 1000 ∧ (imin a (Int.ofNat 1000) ≤ 400 → a ≤ 400) := by
  rw [imin_d, e1000]; split <;> omega
 have e1 : iadd IntKind.i64 (Int.ofNat 1) (imin a (Int.ofNat 1000)) = 1 + imin a (Int.ofNat 1000) := by rw [iadd64 (by rw [lit1]; omega) (by rw [lit1]; omega), lit1]
 have e2 : iadd IntKind.i64 x (1 + imin a (Int.ofNat 1000)) = x + (1 + imin a (Int.ofNat 1000)) := iadd64 (by omega) (by omega)
 rw [e1, e2] at h5 ⊢
 exact ⟨by omega, hm.2.2 (by omega)⟩
theorem light6_sl (l : List Pc) (hall : ∀ p ∈ l, PcOk p) : ∃ b : Bool, Pur F0 4 [.d (.sl 11 (l.map pcRow))] [] .no (.ret (B b)) .no ∧ (b = true → LightP l) := by
 refine pur_ret (g := B) code4_ok ?_
 conv => whnf
 repeat' ((first | refine bt ?_ | refine bf ?_ | refine vl ?_ | fail) <;> conv => whnf)
 refine vloop_cnt (α := Int) l.length (fun k x => (k : Int) ≤ x ∧ x ≤ 400 ∧ ∀ (i : Nat) (p : Pc), i < k → l[i]? = some p → LiP p) (fun k x => [(3, I x), (14, I (k : Int))]) 0 ⟨by omega, by omega, fun i p h => by omega⟩ rfl ?_
 intro k x hk hI
 obtain ⟨hkx, hx4, hI⟩ := hI
 conv => whnf
 by_cases hlt : k < l.length
 · obtain ⟨p, hp⟩ := get_in hlt
   have hg := iget_map (f := pcRow) hp
   have hl := lt_len (f := pcRow) hlt
   have hpo := hall p (List.mem_of_getElem? hp)
   have hnext : LiP p → ∀ (i : Nat) (p : Pc), i < k + 1 → l[i]? = some p → LiP p := fun h => upto_succ (P := fun _ p => LiP p) hI hp h
   clear hp hall hI
   cases hpo with
   | @mk kd vn names t c vi inner hn hi h0 =>
   rcases hi with ⟨rfl, hi⟩ | rfl
   · obtain rfl : inner = [] := List.map_eq_nil_iff.1 hi
     have hin : ∀ q ∈ ([] : List Pc), LiQ q := fun q hq => by cases hq
     rcases hn with ⟨rfl, hn⟩ | rfl
     · obtain rfl : names = [] := List.map_eq_nil_iff.1 hn
       repeat' ((first | refine bt ?_ | refine bf ?_ | refine vo_i hg ?_ | refine vl ?_ | refine vb_i (fun h => ?_) (fun h => ?_) | fail) <;> conv => whnf)
       any_goals (first | (refine ⟨false, rfl, rfl, ?_⟩; intro hff; cases hff; done) | skip)
       have hn4 := ‹ilt (Int.ofNat 400) (iadd IntKind.i64 x (iadd IntKind.i64 (Int.ofNat 1) (imin (0 : Int) (Int.ofNat 1000)))) = false›
       have hn30 := ‹ilt (Int.ofNat 30) (0 : Int) = false›
       have hlen := light_num hkx hx4 (show (0 : Int) ≤ (0 : Int) by omega) hn4
       have hn30' : ([] : List (List UInt8)).length ≤ 30 := by
        rw [ilt_f] at hn30
        have : (30 : Int) = Int.ofNat 30 := rfl
        first
         | (rw [List.length_map] at hn30; omega)
         | (simp; done)
       have hi400 : ([] : List Pc).length ≤ 400 := by
        have := hlen.2
        first
         | (rw [List.length_map] at this; omega)
         | (simp; done)
       refine vloop_cnt (α := Unit) 0 (fun _ _ => True) (fun j _ => [(36, I (j : Int))]) () trivial rfl ?_
       intro j _ hj _
       obtain rfl : j = 0 := by omega
       conv => whnf
       have hz0 : ilt ((0 : Nat) : Int) (0 : Int) = false := by rw [ilt_f]; omega
       have hN : ∀ s ∈ ([] : List (List UInt8)), s.length ≤ 100 := fun s hs => by cases hs
       repeat' ((first | refine bt ?_ | refine bf ?_ | refine vb_f (by (first | omega | (simp only [ilt_t, ilt_f, ile_t, ile_f, ieq_t, ieq_f, ofn, List.length_map, Bool.not_eq_true', Bool.not_eq_false'] at *; omega))) ?_ | refine vl ?_ | fail) <;> conv => whnf)
       refine vloop_cnt (α := Unit) 0 (fun _ _ => True) (fun j _ => [(47, I (j : Int))]) () trivial rfl ?_
       intro j _ hj _
       obtain rfl : j = 0 := by omega
       conv => whnf
       have hz0 : ilt ((0 : Nat) : Int) (0 : Int) = false := by rw [ilt_f]; omega
       have hNx : ∀ s ∈ ([] : List (List UInt8)), s.length ≤ 100 := fun s hs => by cases hs
       repeat' ((first | refine bt ?_ | refine bf ?_ | refine vb_f (by (first | omega | (simp only [ilt_t, ilt_f, ile_t, ile_f, ieq_t, ieq_f, ofn, List.length_map, Bool.not_eq_true', Bool.not_eq_false'] at *; omega))) ?_ | refine vl ?_ | fail) <;> conv => whnf)
       exact ⟨⟨(k + 1, iadd IntKind.i64 x (iadd IntKind.i64 (Int.ofNat 1) (imin (0 : Int) (Int.ofNat 1000)))), (by omega), hlen.1, light_le hn4, hnext ⟨⟨hn30', hN⟩, hi400, hin⟩⟩, (by simp only; omega), (by repeat' (first | exact rfl | exact slot_eq (I_eq (iadd_one (by omega))) | (refine cons_eq ?_ ?_) | assumption)), rfl, rfl, rfl⟩
     · repeat' ((first | refine bt ?_ | refine bf ?_ | refine vo_i hg ?_ | refine vl ?_ | refine vb_i (fun h => ?_) (fun h => ?_) | fail) <;> conv => whnf)
       any_goals (first | (refine ⟨false, rfl, rfl, ?_⟩; intro hff; cases hff; done) | skip)
       have hn4 := ‹ilt (Int.ofNat 400) (iadd IntKind.i64 x (iadd IntKind.i64 (Int.ofNat 1) (imin (0 : Int) (Int.ofNat 1000)))) = false›
       have hn30 := ‹ilt (Int.ofNat 30) ((names.map wsRow).length : Int) = false›
       have hlen := light_num hkx hx4 (show (0 : Int) ≤ (0 : Int) by omega) hn4
       have hn30' : (names : List (List UInt8)).length ≤ 30 := by
        rw [ilt_f] at hn30
        have : (30 : Int) = Int.ofNat 30 := rfl
        first
         | (rw [List.length_map] at hn30; omega)
         | (simp; done)
       have hi400 : ([] : List Pc).length ≤ 400 := by
        have := hlen.2
        first
         | (rw [List.length_map] at this; omega)
         | (simp; done)
       refine vloop_cnt (α := Unit) names.length (fun j _ => ∀ (i : Nat) (s : List UInt8), i < j → names[i]? = some s → s.length ≤ 100) (fun j _ => [(36, I (j : Int))]) () (fun i s h => by omega) rfl ?_
       intro j _ hj hJ
       conv => whnf
       rcases Nat.lt_or_ge j names.length with hlj | hlj
       · obtain ⟨s, hs⟩ := get_in hlj
         have hgs := iget_map (f := wsRow) hs
         have hls := lt_len (f := wsRow) hlj
         by_cases h100 : 100 < s.length
         · have hb : ilt (Int.ofNat 100) (s.length : Int) = true := by rw [ilt_t]; show ((100 : Int) < _); omega
           repeat' ((first | refine bt ?_ | refine bf ?_ | refine vo_i hgs ?_ | refine vl ?_ | fail) <;> conv => whnf)
           exact ⟨false, rfl, rfl, fun h => by cases h⟩
         · have hb : ilt (Int.ofNat 100) (s.length : Int) = false := by rw [ilt_f]; show (_ : Int) ≤ 100; omega
           repeat' ((first | refine bt ?_ | refine bf ?_ | refine vo_i hgs ?_ | refine vl ?_ | fail) <;> conv => whnf)
           exact ⟨⟨(j + 1, ()), (by omega), upto_succ (P := fun _ s => s.length ≤ 100) hJ hs (by omega)⟩, (by simp only; omega), (by repeat' (first | exact rfl | exact slot_eq (I_eq (iadd_one (by omega))) | (refine cons_eq ?_ ?_) | assumption)), rfl, rfl, rfl⟩
       have hls := nlt_len (f := wsRow) (Nat.not_lt.2 hlj)
       have hN : ∀ s ∈ names, s.length ≤ 100 := lt_idx fun i s h h1 => hJ i s (by omega) h1
       clear hJ
       repeat' ((first | refine bt ?_ | refine bf ?_ | refine vb_f (by (first | omega | (simp only [ilt_t, ilt_f, ile_t, ile_f, ieq_t, ieq_f, ofn, List.length_map, Bool.not_eq_true', Bool.not_eq_false'] at *; omega))) ?_ | refine vl ?_ | fail) <;> conv => whnf)
       refine vloop_cnt (α := Unit) 0 (fun _ _ => True) (fun j _ => [(47, I (j : Int))]) () trivial rfl ?_
       intro j _ hj _
       obtain rfl : j = 0 := by omega
       conv => whnf
       have hz0 : ilt ((0 : Nat) : Int) (0 : Int) = false := by rw [ilt_f]; omega
       have hNx : ∀ s ∈ ([] : List (List UInt8)), s.length ≤ 100 := fun s hs => by cases hs
       repeat' ((first | refine bt ?_ | refine bf ?_ | refine vb_f (by (first | omega | (simp only [ilt_t, ilt_f, ile_t, ile_f, ieq_t, ieq_f, ofn, List.length_map, Bool.not_eq_true', Bool.not_eq_false'] at *; omega))) ?_ | refine vl ?_ | fail) <;> conv => whnf)
       exact ⟨⟨(k + 1, iadd IntKind.i64 x (iadd IntKind.i64 (Int.ofNat 1) (imin (0 : Int) (Int.ofNat 1000)))), (by omega), hlen.1, light_le hn4, hnext ⟨⟨hn30', hN⟩, hi400, hin⟩⟩, (by simp only; omega), (by repeat' (first | exact rfl | exact slot_eq (I_eq (iadd_one (by omega))) | (refine cons_eq ?_ ?_) | assumption)), rfl, rfl, rfl⟩
   · rcases hn with ⟨rfl, hn⟩ | rfl
     · obtain rfl : names = [] := List.map_eq_nil_iff.1 hn
       repeat' ((first | refine bt ?_ | refine bf ?_ | refine vo_i hg ?_ | refine vl ?_ | refine vb_i (fun h => ?_) (fun h => ?_) | fail) <;> conv => whnf)
       any_goals (first | (refine ⟨false, rfl, rfl, ?_⟩; intro hff; cases hff; done) | skip)
       have hn4 := ‹ilt (Int.ofNat 400) (iadd IntKind.i64 x (iadd IntKind.i64 (Int.ofNat 1) (imin ((inner.map pcRow).length : Int) (Int.ofNat 1000)))) = false›
       have hn30 := ‹ilt (Int.ofNat 30) (0 : Int) = false›
       have hlen := light_num hkx hx4 (show (0 : Int) ≤ ((inner.map pcRow).length : Int) by omega) hn4
       have hn30' : ([] : List (List UInt8)).length ≤ 30 := by
        rw [ilt_f] at hn30
        have : (30 : Int) = Int.ofNat 30 := rfl
        first
         | (rw [List.length_map] at hn30; omega)
         | (simp; done)
       have hi400 : (inner : List Pc).length ≤ 400 := by
        have := hlen.2
        first
         | (rw [List.length_map] at this; omega)
         | (simp; done)
       refine vloop_cnt (α := Unit) 0 (fun _ _ => True) (fun j _ => [(36, I (j : Int))]) () trivial rfl ?_
       intro j _ hj _
       obtain rfl : j = 0 := by omega
       conv => whnf
       have hz0 : ilt ((0 : Nat) : Int) (0 : Int) = false := by rw [ilt_f]; omega
       have hN : ∀ s ∈ ([] : List (List UInt8)), s.length ≤ 100 := fun s hs => by cases hs
       repeat' ((first | refine bt ?_ | refine bf ?_ | refine vb_f (by (first | omega | (simp only [ilt_t, ilt_f, ile_t, ile_f, ieq_t, ieq_f, ofn, List.length_map, Bool.not_eq_true', Bool.not_eq_false'] at *; omega))) ?_ | refine vl ?_ | fail) <;> conv => whnf)
       clear hg
       have hN0 := hN
       clear hN
       refine vloop_cnt (α := Unit) inner.length (fun m _ => ∀ (i : Nat) (q : Pc), i < m → inner[i]? = some q → LiQ q) (fun m _ => [(47, I (m : Int))]) () (fun i s h => by omega) rfl ?_
       intro m _ hm hM
       conv => whnf
       rcases Nat.lt_or_ge m inner.length with hlm | hlm
       · obtain ⟨q, hq⟩ := get_in hlm
         have hgq := iget_map (f := pcRow) hq
         have hlq := lt_len (f := pcRow) hlm
         have hqo := h0 q (List.mem_of_getElem? hq)
         have hqn : LiQ q → ∀ (i : Nat) (q : Pc), i < m + 1 → inner[i]? = some q → LiQ q := fun h => upto_succ (P := fun _ q => LiQ q) hM hq h
         clear hM hq
         cases hqo with
         | @mk kd2 vn2 names2 t2 c2 vi2 inner2 hn2 hi2 h02 =>
         rcases hi2 with ⟨rfl, hi2⟩ | rfl
         · obtain rfl : inner2 = [] := List.map_eq_nil_iff.1 hi2
           have hi0 : ([] : List Pc) = [] := rfl
           have hi00 : ilt (Int.ofNat 0) (0 : Int) = false := by rw [ilt_f, lit0]; omega
           rcases hn2 with ⟨rfl, hn2⟩ | rfl
           · obtain rfl : names2 = [] := List.map_eq_nil_iff.1 hn2
             repeat' ((first | refine bt ?_ | refine bf ?_ | refine vo_i hgq ?_ | refine vl ?_ | refine vb_i (fun h => ?_) (fun h => ?_) | fail) <;> conv => whnf)
             any_goals (first | (refine ⟨false, rfl, rfl, ?_⟩; intro hff; cases hff; done) | skip)
             have hq30 := ‹ilt (Int.ofNat 30) (0 : Int) = false›
             have hq30' : ([] : List (List UInt8)).length ≤ 30 := by
              rw [ilt_f] at hq30
              have : (30 : Int) = Int.ofNat 30 := rfl
              first
               | (rw [List.length_map] at hq30; omega)
               | (simp; done)
             refine vloop_cnt (α := Unit) 0 (fun _ _ => True) (fun j _ => [(64, I (j : Int))]) () trivial rfl ?_
             intro j _ hj _
             obtain rfl : j = 0 := by omega
             conv => whnf
             have hz0 : ilt ((0 : Nat) : Int) (0 : Int) = false := by rw [ilt_f]; omega
             have hN : ∀ s ∈ ([] : List (List UInt8)), s.length ≤ 100 := fun s hs => by cases hs
             repeat' ((first | refine bt ?_ | refine bf ?_ | refine vb_f (by (first | omega | (simp only [ilt_t, ilt_f, ile_t, ile_f, ieq_t, ieq_f, ofn, List.length_map, Bool.not_eq_true', Bool.not_eq_false'] at *; omega))) ?_ | refine vl ?_ | fail) <;> conv => whnf)
             exact ⟨⟨(m + 1, ()), (by omega), hqn ⟨⟨hq30', hN⟩, hi0⟩⟩, (by simp only; omega), (by repeat' (first | exact rfl | exact slot_eq (I_eq (iadd_one (by omega))) | (refine cons_eq ?_ ?_) | assumption)), rfl, rfl, rfl⟩
           · repeat' ((first | refine bt ?_ | refine bf ?_ | refine vo_i hgq ?_ | refine vl ?_ | refine vb_i (fun h => ?_) (fun h => ?_) | fail) <;> conv => whnf)
             any_goals (first | (refine ⟨false, rfl, rfl, ?_⟩; intro hff; cases hff; done) | skip)
             have hq30 := ‹ilt (Int.ofNat 30) ((names2.map wsRow).length : Int) = false›
             have hq30' : (names2 : List (List UInt8)).length ≤ 30 := by
              rw [ilt_f] at hq30
              have : (30 : Int) = Int.ofNat 30 := rfl
              first
               | (rw [List.length_map] at hq30; omega)
               | (simp; done)
             refine vloop_cnt (α := Unit) names2.length (fun j _ => ∀ (i : Nat) (s : List UInt8), i < j → names2[i]? = some s → s.length ≤ 100) (fun j _ => [(64, I (j : Int))]) () (fun i s h => by omega) rfl ?_
             intro j _ hj hJ
             conv => whnf
             rcases Nat.lt_or_ge j names2.length with hlj | hlj
             · obtain ⟨s, hs⟩ := get_in hlj
               have hgs := iget_map (f := wsRow) hs
               have hls := lt_len (f := wsRow) hlj
               by_cases h100 : 100 < s.length
               · have hb : ilt (Int.ofNat 100) (s.length : Int) = true := by rw [ilt_t]; show ((100 : Int) < _); omega
                 repeat' ((first | refine bt ?_ | refine bf ?_ | refine vo_i hgs ?_ | refine vl ?_ | fail) <;> conv => whnf)
                 exact ⟨false, rfl, rfl, fun h => by cases h⟩
               · have hb : ilt (Int.ofNat 100) (s.length : Int) = false := by rw [ilt_f]; show (_ : Int) ≤ 100; omega
                 repeat' ((first | refine bt ?_ | refine bf ?_ | refine vo_i hgs ?_ | refine vl ?_ | fail) <;> conv => whnf)
                 exact ⟨⟨(j + 1, ()), (by omega), upto_succ (P := fun _ s => s.length ≤ 100) hJ hs (by omega)⟩, (by simp only; omega), (by repeat' (first | exact rfl | exact slot_eq (I_eq (iadd_one (by omega))) | (refine cons_eq ?_ ?_) | assumption)), rfl, rfl, rfl⟩
             have hls := nlt_len (f := wsRow) (Nat.not_lt.2 hlj)
             have hN : ∀ s ∈ names2, s.length ≤ 100 := lt_idx fun i s h h1 => hJ i s (by omega) h1
             clear hJ
             repeat' ((first | refine bt ?_ | refine bf ?_ | refine vb_f (by (first | omega | (simp only [ilt_t, ilt_f, ile_t, ile_f, ieq_t, ieq_f, ofn, List.length_map, Bool.not_eq_true', Bool.not_eq_false'] at *; omega))) ?_ | refine vl ?_ | fail) <;> conv => whnf)
             exact ⟨⟨(m + 1, ()), (by omega), hqn ⟨⟨hq30', hN⟩, hi0⟩⟩, (by simp only; omega), (by repeat' (first | exact rfl | exact slot_eq (I_eq (iadd_one (by omega))) | (refine cons_eq ?_ ?_) | assumption)), rfl, rfl, rfl⟩
         · by_cases hi0 : inner2 = []
           · have hi00 : ilt (Int.ofNat 0) ((inner2.map pcRow).length : Int) = false := by rw [ilt_f, lit0, hi0]; simp
             rcases hn2 with ⟨rfl, hn2⟩ | rfl
             · obtain rfl : names2 = [] := List.map_eq_nil_iff.1 hn2
               repeat' ((first | refine bt ?_ | refine bf ?_ | refine vo_i hgq ?_ | refine vl ?_ | refine vb_i (fun h => ?_) (fun h => ?_) | fail) <;> conv => whnf)
               any_goals (first | (refine ⟨false, rfl, rfl, ?_⟩; intro hff; cases hff; done) | skip)
               have hq30 := ‹ilt (Int.ofNat 30) (0 : Int) = false›
               have hq30' : ([] : List (List UInt8)).length ≤ 30 := by
                rw [ilt_f] at hq30
                have : (30 : Int) = Int.ofNat 30 := rfl
                first
                 | (rw [List.length_map] at hq30; omega)
                 | (simp; done)
               refine vloop_cnt (α := Unit) 0 (fun _ _ => True) (fun j _ => [(64, I (j : Int))]) () trivial rfl ?_
               intro j _ hj _
               obtain rfl : j = 0 := by omega
               conv => whnf
               have hz0 : ilt ((0 : Nat) : Int) (0 : Int) = false := by rw [ilt_f]; omega
               have hN : ∀ s ∈ ([] : List (List UInt8)), s.length ≤ 100 := fun s hs => by cases hs
               repeat' ((first | refine bt ?_ | refine bf ?_ | refine vb_f (by (first | omega | (simp only [ilt_t, ilt_f, ile_t, ile_f, ieq_t, ieq_f, ofn, List.length_map, Bool.not_eq_true', Bool.not_eq_false'] at *; omega))) ?_ | refine vl ?_ | fail) <;> conv => whnf)
               exact ⟨⟨(m + 1, ()), (by omega), hqn ⟨⟨hq30', hN⟩, hi0⟩⟩, (by simp only; omega), (by repeat' (first | exact rfl | exact slot_eq (I_eq (iadd_one (by omega))) | (refine cons_eq ?_ ?_) | assumption)), rfl, rfl, rfl⟩
             · repeat' ((first | refine bt ?_ | refine bf ?_ | refine vo_i hgq ?_ | refine vl ?_ | refine vb_i (fun h => ?_) (fun h => ?_) | fail) <;> conv => whnf)
               any_goals (first | (refine ⟨false, rfl, rfl, ?_⟩; intro hff; cases hff; done) | skip)
               have hq30 := ‹ilt (Int.ofNat 30) ((names2.map wsRow).length : Int) = false›
               have hq30' : (names2 : List (List UInt8)).length ≤ 30 := by
                rw [ilt_f] at hq30
                have : (30 : Int) = Int.ofNat 30 := rfl
                first
                 | (rw [List.length_map] at hq30; omega)
                 | (simp; done)
               refine vloop_cnt (α := Unit) names2.length (fun j _ => ∀ (i : Nat) (s : List UInt8), i < j → names2[i]? = some s → s.length ≤ 100) (fun j _ => [(64, I (j : Int))]) () (fun i s h => by omega) rfl ?_
               intro j _ hj hJ
               conv => whnf
               rcases Nat.lt_or_ge j names2.length with hlj | hlj
               · obtain ⟨s, hs⟩ := get_in hlj
                 have hgs := iget_map (f := wsRow) hs
                 have hls := lt_len (f := wsRow) hlj
                 by_cases h100 : 100 < s.length
                 · have hb : ilt (Int.ofNat 100) (s.length : Int) = true := by rw [ilt_t]; show ((100 : Int) < _); omega
                   repeat' ((first | refine bt ?_ | refine bf ?_ | refine vo_i hgs ?_ | refine vl ?_ | fail) <;> conv => whnf)
                   exact ⟨false, rfl, rfl, fun h => by cases h⟩
                 · have hb : ilt (Int.ofNat 100) (s.length : Int) = false := by rw [ilt_f]; show (_ : Int) ≤ 100; omega
                   repeat' ((first | refine bt ?_ | refine bf ?_ | refine vo_i hgs ?_ | refine vl ?_ | fail) <;> conv => whnf)
                   exact ⟨⟨(j + 1, ()), (by omega), upto_succ (P := fun _ s => s.length ≤ 100) hJ hs (by omega)⟩, (by simp only; omega), (by repeat' (first | exact rfl | exact slot_eq (I_eq (iadd_one (by omega))) | (refine cons_eq ?_ ?_) | assumption)), rfl, rfl, rfl⟩
               have hls := nlt_len (f := wsRow) (Nat.not_lt.2 hlj)
               have hN : ∀ s ∈ names2, s.length ≤ 100 := lt_idx fun i s h h1 => hJ i s (by omega) h1
               clear hJ
               repeat' ((first | refine bt ?_ | refine bf ?_ | refine vb_f (by (first | omega | (simp only [ilt_t, ilt_f, ile_t, ile_f, ieq_t, ieq_f, ofn, List.length_map, Bool.not_eq_true', Bool.not_eq_false'] at *; omega))) ?_ | refine vl ?_ | fail) <;> conv => whnf)
               exact ⟨⟨(m + 1, ()), (by omega), hqn ⟨⟨hq30', hN⟩, hi0⟩⟩, (by simp only; omega), (by repeat' (first | exact rfl | exact slot_eq (I_eq (iadd_one (by omega))) | (refine cons_eq ?_ ?_) | assumption)), rfl, rfl, rfl⟩
           · have hi00 : ilt (Int.ofNat 0) ((inner2.map pcRow).length : Int) = true := by
              have := List.length_pos_iff.2 hi0
              rw [ilt_t, lit0, List.length_map]; omega
             rcases hn2 with ⟨rfl, hn2⟩ | rfl
             · repeat' ((first | refine bt ?_ | refine bf ?_ | refine vo_i hgq ?_ | refine vl ?_ | refine vb_i (fun h => ?_) (fun h => ?_) | fail) <;> conv => whnf)
               all_goals exact ⟨false, rfl, rfl, fun h => by cases h⟩
             · repeat' ((first | refine bt ?_ | refine bf ?_ | refine vo_i hgq ?_ | refine vl ?_ | refine vb_i (fun h => ?_) (fun h => ?_) | fail) <;> conv => whnf)
               all_goals exact ⟨false, rfl, rfl, fun h => by cases h⟩
       have hlq := nlt_len (f := pcRow) (Nat.not_lt.2 hlm)
       have hin : ∀ q ∈ inner, LiQ q := lt_idx fun i q h h1 => hM i q (by omega) h1
       have hN := hN0
       repeat' ((first | refine bt ?_ | refine bf ?_ | refine vb_f (by (first | omega | (simp only [ilt_t, ilt_f, ile_t, ile_f, ieq_t, ieq_f, ofn, List.length_map, Bool.not_eq_true', Bool.not_eq_false'] at *; omega))) ?_ | refine vl ?_ | fail) <;> conv => whnf)
       exact ⟨⟨(k + 1, iadd IntKind.i64 x (iadd IntKind.i64 (Int.ofNat 1) (imin ((inner.map pcRow).length : Int) (Int.ofNat 1000)))), (by omega), hlen.1, light_le hn4, hnext ⟨⟨hn30', hN⟩, hi400, hin⟩⟩, (by simp only; omega), (by repeat' (first | exact rfl | exact slot_eq (I_eq (iadd_one (by omega))) | (refine cons_eq ?_ ?_) | assumption)), rfl, rfl, rfl⟩
     · repeat' ((first | refine bt ?_ | refine bf ?_ | refine vo_i hg ?_ | refine vl ?_ | refine vb_i (fun h => ?_) (fun h => ?_) | fail) <;> conv => whnf)
       any_goals (first | (refine ⟨false, rfl, rfl, ?_⟩; intro hff; cases hff; done) | skip)
       have hn4 := ‹ilt (Int.ofNat 400) (iadd IntKind.i64 x (iadd IntKind.i64 (Int.ofNat 1) (imin ((inner.map pcRow).length : Int) (Int.ofNat 1000)))) = false›
       have hn30 := ‹ilt (Int.ofNat 30) ((names.map wsRow).length : Int) = false›
       have hlen := light_num hkx hx4 (show (0 : Int) ≤ ((inner.map pcRow).length : Int) by omega) hn4
       have hn30' : (names : List (List UInt8)).length ≤ 30 := by
        rw [ilt_f] at hn30
        have : (30 : Int) = Int.ofNat 30 := rfl
        first
         | (rw [List.length_map] at hn30; omega)
         | (simp; done)
       have hi400 : (inner : List Pc).length ≤ 400 := by
        have := hlen.2
        first
         | (rw [List.length_map] at this; omega)
         | (simp; done)
       refine vloop_cnt (α := Unit) names.length (fun j _ => ∀ (i : Nat) (s : List UInt8), i < j → names[i]? = some s → s.length ≤ 100) (fun j _ => [(36, I (j : Int))]) () (fun i s h => by omega) rfl ?_
       intro j _ hj hJ
       conv => whnf
       rcases Nat.lt_or_ge j names.length with hlj | hlj
       · obtain ⟨s, hs⟩ := get_in hlj
         have hgs := iget_map (f := wsRow) hs
         have hls := lt_len (f := wsRow) hlj
         by_cases h100 : 100 < s.length
         · have hb : ilt (Int.ofNat 100) (s.length : Int) = true := by rw [ilt_t]; show ((100 : Int) < _); omega
           repeat' ((first | refine bt ?_ | refine bf ?_ | refine vo_i hgs ?_ | refine vl ?_ | fail) <;> conv => whnf)
           exact ⟨false, rfl, rfl, fun h => by cases h⟩
         · have hb : ilt (Int.ofNat 100) (s.length : Int) = false := by rw [ilt_f]; show (_ : Int) ≤ 100; omega
           repeat' ((first | refine bt ?_ | refine bf ?_ | refine vo_i hgs ?_ | refine vl ?_ | fail) <;> conv => whnf)
           exact ⟨⟨(j + 1, ()), (by omega), upto_succ (P := fun _ s => s.length ≤ 100) hJ hs (by omega)⟩, (by simp only; omega), (by repeat' (first | exact rfl | exact slot_eq (I_eq (iadd_one (by omega))) | (refine cons_eq ?_ ?_) | assumption)), rfl, rfl, rfl⟩
       have hls := nlt_len (f := wsRow) (Nat.not_lt.2 hlj)
       have hN : ∀ s ∈ names, s.length ≤ 100 := lt_idx fun i s h h1 => hJ i s (by omega) h1
       clear hJ
       repeat' ((first | refine bt ?_ | refine bf ?_ | refine vb_f (by (first | omega | (simp only [ilt_t, ilt_f, ile_t, ile_f, ieq_t, ieq_f, ofn, List.length_map, Bool.not_eq_true', Bool.not_eq_false'] at *; omega))) ?_ | refine vl ?_ | fail) <;> conv => whnf)
       clear hg
       have hN0 := hN
       clear hN
       refine vloop_cnt (α := Unit) inner.length (fun m _ => ∀ (i : Nat) (q : Pc), i < m → inner[i]? = some q → LiQ q) (fun m _ => [(47, I (m : Int))]) () (fun i s h => by omega) rfl ?_
       intro m _ hm hM
       conv => whnf
       rcases Nat.lt_or_ge m inner.length with hlm | hlm
       · obtain ⟨q, hq⟩ := get_in hlm
         have hgq := iget_map (f := pcRow) hq
         have hlq := lt_len (f := pcRow) hlm
         have hqo := h0 q (List.mem_of_getElem? hq)
         have hqn : LiQ q → ∀ (i : Nat) (q : Pc), i < m + 1 → inner[i]? = some q → LiQ q := fun h => upto_succ (P := fun _ q => LiQ q) hM hq h
         clear hM hq
         cases hqo with
         | @mk kd2 vn2 names2 t2 c2 vi2 inner2 hn2 hi2 h02 =>
         rcases hi2 with ⟨rfl, hi2⟩ | rfl
         · obtain rfl : inner2 = [] := List.map_eq_nil_iff.1 hi2
           have hi0 : ([] : List Pc) = [] := rfl
           have hi00 : ilt (Int.ofNat 0) (0 : Int) = false := by rw [ilt_f, lit0]; omega
           rcases hn2 with ⟨rfl, hn2⟩ | rfl
           · obtain rfl : names2 = [] := List.map_eq_nil_iff.1 hn2
             repeat' ((first | refine bt ?_ | refine bf ?_ | refine vo_i hgq ?_ | refine vl ?_ | refine vb_i (fun h => ?_) (fun h => ?_) | fail) <;> conv => whnf)
             any_goals (first | (refine ⟨false, rfl, rfl, ?_⟩; intro hff; cases hff; done) | skip)
             have hq30 := ‹ilt (Int.ofNat 30) (0 : Int) = false›
             have hq30' : ([] : List (List UInt8)).length ≤ 30 := by
              rw [ilt_f] at hq30
              have : (30 : Int) = Int.ofNat 30 := rfl
              first
               | (rw [List.length_map] at hq30; omega)
               | (simp; done)
             refine vloop_cnt (α := Unit) 0 (fun _ _ => True) (fun j _ => [(64, I (j : Int))]) () trivial rfl ?_
             intro j _ hj _
             obtain rfl : j = 0 := by omega
             conv => whnf
             have hz0 : ilt ((0 : Nat) : Int) (0 : Int) = false := by rw [ilt_f]; omega
             have hN : ∀ s ∈ ([] : List (List UInt8)), s.length ≤ 100 := fun s hs => by cases hs
             repeat' ((first | refine bt ?_ | refine bf ?_ | refine vb_f (by (first | omega | (simp only [ilt_t, ilt_f, ile_t, ile_f, ieq_t, ieq_f, ofn, List.length_map, Bool.not_eq_true', Bool.not_eq_false'] at *; omega))) ?_ | refine vl ?_ | fail) <;> conv => whnf)
             exact ⟨⟨(m + 1, ()), (by omega), hqn ⟨⟨hq30', hN⟩, hi0⟩⟩, (by simp only; omega), (by repeat' (first | exact rfl | exact slot_eq (I_eq (iadd_one (by omega))) | (refine cons_eq ?_ ?_) | assumption)), rfl, rfl, rfl⟩
           · repeat' ((first | refine bt ?_ | refine bf ?_ | refine vo_i hgq ?_ | refine vl ?_ | refine vb_i (fun h => ?_) (fun h => ?_) | fail) <;> conv => whnf)
             any_goals (first | (refine ⟨false, rfl, rfl, ?_⟩; intro hff; cases hff; done) | skip)
             have hq30 := ‹ilt (Int.ofNat 30) ((names2.map wsRow).length : Int) = false›
             have hq30' : (names2 : List (List UInt8)).length ≤ 30 := by
              rw [ilt_f] at hq30
              have : (30 : Int) = Int.ofNat 30 := rfl
              first
               | (rw [List.length_map] at hq30; omega)
               | (simp; done)
             refine vloop_cnt (α := Unit) names2.length (fun j _ => ∀ (i : Nat) (s : List UInt8), i < j → names2[i]? = some s → s.length ≤ 100) (fun j _ => [(64, I (j : Int))]) () (fun i s h => by omega) rfl ?_
             intro j _ hj hJ
             conv => whnf
             rcases Nat.lt_or_ge j names2.length with hlj | hlj
             · obtain ⟨s, hs⟩ := get_in hlj
               have hgs := iget_map (f := wsRow) hs
               have hls := lt_len (f := wsRow) hlj
               by_cases h100 : 100 < s.length
               · have hb : ilt (Int.ofNat 100) (s.length : Int) = true := by rw [ilt_t]; show ((100 : Int) < _); omega
                 repeat' ((first | refine bt ?_ | refine bf ?_ | refine vo_i hgs ?_ | refine vl ?_ | fail) <;> conv => whnf)
                 exact ⟨false, rfl, rfl, fun h => by cases h⟩
               · have hb : ilt (Int.ofNat 100) (s.length : Int) = false := by rw [ilt_f]; show (_ : Int) ≤ 100; omega
                 repeat' ((first | refine bt ?_ | refine bf ?_ | refine vo_i hgs ?_ | refine vl ?_ | fail) <;> conv => whnf)
                 exact ⟨⟨(j + 1, ()), (by omega), upto_succ (P := fun _ s => s.length ≤ 100) hJ hs (by omega)⟩, (by simp only; omega), (by repeat' (first | exact rfl | exact slot_eq (I_eq (iadd_one (by omega))) | (refine cons_eq ?_ ?_) | assumption)), rfl, rfl, rfl⟩
             have hls := nlt_len (f := wsRow) (Nat.not_lt.2 hlj)
             have hN : ∀ s ∈ names2, s.length ≤ 100 := lt_idx fun i s h h1 => hJ i s (by omega) h1
             clear hJ
             repeat' ((first | refine bt ?_ | refine bf ?_ | refine vb_f (by (first | omega | (simp only [ilt_t, ilt_f, ile_t, ile_f, ieq_t, ieq_f, ofn, List.length_map, Bool.not_eq_true', Bool.not_eq_false'] at *; omega))) ?_ | refine vl ?_ | fail) <;> conv => whnf)
             exact ⟨⟨(m + 1, ()), (by omega), hqn ⟨⟨hq30', hN⟩, hi0⟩⟩, (by simp only; omega), (by repeat' (first | exact rfl | exact slot_eq (I_eq (iadd_one (by omega))) | (refine cons_eq ?_ ?_) | assumption)), rfl, rfl, rfl⟩
         · by_cases hi0 : inner2 = []
           · have hi00 : ilt (Int.ofNat 0) ((inner2.map pcRow).length : Int) = false := by rw [ilt_f, lit0, hi0]; simp
             rcases hn2 with ⟨rfl, hn2⟩ | rfl
             · obtain rfl : names2 = [] := List.map_eq_nil_iff.1 hn2
               repeat' ((first | refine bt ?_ | refine bf ?_ | refine vo_i hgq ?_ | refine vl ?_ | refine vb_i (fun h => ?_) (fun h => ?_) | fail) <;> conv => whnf)
               any_goals (first | (refine ⟨false, rfl, rfl, ?_⟩; intro hff; cases hff; done) | skip)
               have hq30 := ‹ilt (Int.ofNat 30) (0 : Int) = false›
               have hq30' : ([] : List (List UInt8)).length ≤ 30 := by
                rw [ilt_f] at hq30
                have : (30 : Int) = Int.ofNat 30 := rfl
                first
                 | (rw [List.length_map] at hq30; omega)
                 | (simp; done)
               refine vloop_cnt (α := Unit) 0 (fun _ _ => True) (fun j _ => [(64, I (j : Int))]) () trivial rfl ?_
               intro j _ hj _
               obtain rfl : j = 0 := by omega
               conv => whnf
               have hz0 : ilt ((0 : Nat) : Int) (0 : Int) = false := by rw [ilt_f]; omega
               have hN : ∀ s ∈ ([] : List (List UInt8)), s.length ≤ 100 := fun s hs => by cases hs
               repeat' ((first | refine bt ?_ | refine bf ?_ | refine vb_f (by (first | omega | (simp only [ilt_t, ilt_f, ile_t, ile_f, ieq_t, ieq_f, ofn, List.length_map, Bool.not_eq_true', Bool.not_eq_false'] at *; omega))) ?_ | refine vl ?_ | fail) <;> conv => whnf)
               exact ⟨⟨(m + 1, ()), (by omega), hqn ⟨⟨hq30', hN⟩, hi0⟩⟩, (by simp only; omega), (by repeat' (first | exact rfl | exact slot_eq (I_eq (iadd_one (by omega))) | (refine cons_eq ?_ ?_) | assumption)), rfl, rfl, rfl⟩
             · repeat' ((first | refine bt ?_ | refine bf ?_ | refine vo_i hgq ?_ | refine vl ?_ | refine vb_i (fun h => ?_) (fun h => ?_) | fail) <;> conv => whnf)
               any_goals (first | (refine ⟨false, rfl, rfl, ?_⟩; intro hff; cases hff; done) | skip)
               have hq30 := ‹ilt (Int.ofNat 30) ((names2.map wsRow).length : Int) = false›
               have hq30' : (names2 : List (List UInt8)).length ≤ 30 := by
                rw [ilt_f] at hq30
                have : (30 : Int) = Int.ofNat 30 := rfl
                first
                 | (rw [List.length_map] at hq30; omega)
                 | (simp; done)
               refine vloop_cnt (α := Unit) names2.length (fun j _ => ∀ (i : Nat) (s : List UInt8), i < j → names2[i]? = some s → s.length ≤ 100) (fun j _ => [(64, I (j : Int))]) () (fun i s h => by omega) rfl ?_
               intro j _ hj hJ
               conv => whnf
               rcases Nat.lt_or_ge j names2.length with hlj | hlj
               · obtain ⟨s, hs⟩ := get_in hlj
                 have hgs := iget_map (f := wsRow) hs
                 have hls := lt_len (f := wsRow) hlj
                 by_cases h100 : 100 < s.length
                 · have hb : ilt (Int.ofNat 100) (s.length : Int) = true := by rw [ilt_t]; show ((100 : Int) < _); omega
                   repeat' ((first | refine bt ?_ | refine bf ?_ | refine vo_i hgs ?_ | refine vl ?_ | fail) <;> conv => whnf)
                   exact ⟨false, rfl, rfl, fun h => by cases h⟩
                 · have hb : ilt (Int.ofNat 100) (s.length : Int) = false := by rw [ilt_f]; show (_ : Int) ≤ 100; omega
                   repeat' ((first | refine bt ?_ | refine bf ?_ | refine vo_i hgs ?_ | refine vl ?_ | fail) <;> conv => whnf)
                   exact ⟨⟨(j + 1, ()), (by omega), upto_succ (P := fun _ s => s.length ≤ 100) hJ hs (by omega)⟩, (by simp only; omega), (by repeat' (first | exact rfl | exact slot_eq (I_eq (iadd_one (by omega))) | (refine cons_eq ?_ ?_) | assumption)), rfl, rfl, rfl⟩
               have hls := nlt_len (f := wsRow) (Nat.not_lt.2 hlj)
               have hN : ∀ s ∈ names2, s.length ≤ 100 := lt_idx fun i s h h1 => hJ i s (by omega) h1
               clear hJ
               repeat' ((first | refine bt ?_ | refine bf ?_ | refine vb_f (by (first | omega | (simp only [ilt_t, ilt_f, ile_t, ile_f, ieq_t, ieq_f, ofn, List.length_map, Bool.not_eq_true', Bool.not_eq_false'] at *; omega))) ?_ | refine vl ?_ | fail) <;> conv => whnf)
               exact ⟨⟨(m + 1, ()), (by omega), hqn ⟨⟨hq30', hN⟩, hi0⟩⟩, (by simp only; omega), (by repeat' (first | exact rfl | exact slot_eq (I_eq (iadd_one (by omega))) | (refine cons_eq ?_ ?_) | assumption)), rfl, rfl, rfl⟩
           · have hi00 : ilt (Int.ofNat 0) ((inner2.map pcRow).length : Int) = true := by
              have := List.length_pos_iff.2 hi0
              rw [ilt_t, lit0, List.length_map]; omega
             rcases hn2 with ⟨rfl, hn2⟩ | rfl
             · repeat' ((first | refine bt ?_ | refine bf ?_ | refine vo_i hgq ?_ | refine vl ?_ | refine vb_i (fun h => ?_) (fun h => ?_) | fail) <;> conv => whnf)
               all_goals exact ⟨false, rfl, rfl, fun h => by cases h⟩
             · repeat' ((first | refine bt ?_ | refine bf ?_ | refine vo_i hgq ?_ | refine vl ?_ | refine vb_i (fun h => ?_) (fun h => ?_) | fail) <;> conv => whnf)
               all_goals exact ⟨false, rfl, rfl, fun h => by cases h⟩
       have hlq := nlt_len (f := pcRow) (Nat.not_lt.2 hlm)
       have hin : ∀ q ∈ inner, LiQ q := lt_idx fun i q h h1 => hM i q (by omega) h1
       have hN := hN0
       repeat' ((first | refine bt ?_ | refine bf ?_ | refine vb_f (by (first | omega | (simp only [ilt_t, ilt_f, ile_t, ile_f, ieq_t, ieq_f, ofn, List.length_map, Bool.not_eq_true', Bool.not_eq_false'] at *; omega))) ?_ | refine vl ?_ | fail) <;> conv => whnf)
       exact ⟨⟨(k + 1, iadd IntKind.i64 x (iadd IntKind.i64 (Int.ofNat 1) (imin ((inner.map pcRow).length : Int) (Int.ofNat 1000)))), (by omega), hlen.1, light_le hn4, hnext ⟨⟨hn30', hN⟩, hi400, hin⟩⟩, (by simp only; omega), (by repeat' (first | exact rfl | exact slot_eq (I_eq (iadd_one (by omega))) | (refine cons_eq ?_ ?_) | assumption)), rfl, rfl, rfl⟩
 · have hl := nlt_len (f := pcRow) hlt
   have hA : ∀ p ∈ l, LiP p := lt_idx fun i p h h1 => hI i p (by omega) h1
   repeat' ((first | refine bt ?_ | refine bf ?_ | refine vb_f (by (first | omega | (simp only [ilt_t, ilt_f, ile_t, ile_f, ieq_t, ieq_f, ofn, List.length_map, Bool.not_eq_true', Bool.not_eq_false'] at *; omega))) ?_ | refine vl ?_ | fail) <;> conv => whnf)
   exact ⟨true, rfl, rfl, fun _ => ⟨by omega, hA⟩⟩
theorem light6_nil : Pur F0 4 [.d .nilsl] [] .no (.ret (B true)) .no := pur_closed (n := 100) (by kernel_rfl)
theorem light6_ok (l : List Pc) (v : DV) (hv : SlV 11 (l.map pcRow) v) (hall : ∀ p ∈ l, PcOk p) : ∃ b : Bool, Pur F0 4 [.d v] [] .no (.ret (B b)) .no ∧ (b = true → LightP l) := by
 rcases hv with ⟨rfl, hn⟩ | rfl
 · obtain rfl : l = [] := List.map_eq_nil_iff.1 hn
   exact ⟨true, light6_nil, fun _ => ⟨by simp, fun p hp => by cases hp⟩⟩
 · exact light6_sl l hall
theorem light_sm {l : List Pc} (hall : ∀ p ∈ l, PcOk p) (h : LightP l) : Sm2 l := by
 refine ⟨⟨by have := h.1; omega, fun p hp => ?_⟩, fun p hp => ?_⟩
 · obtain ⟨⟨h1, h2⟩, h3, h4⟩ := h.2 p hp
   exact ⟨hall p hp, ⟨by omega, fun s hs => by have := h2 s hs; omega⟩, by omega⟩
 · obtain ⟨⟨h1, h2⟩, h3, h4⟩ := h.2 p hp
   have hpo := hall p hp
   cases hpo with
   | @mk kd vn names t c vi inner hn hi h0 =>
   simp only [Pc.inner] at h3 h4 ⊢
   refine ⟨by omega, fun q hq => ?_⟩
   obtain ⟨⟨h5, h6⟩, h7⟩ := h4 q hq
   exact ⟨h0 q hq, ⟨by omega, fun s hs => by have := h6 s hs; omega⟩, by rw [h7]; simp⟩
end Go.Proofs.YtkljckbaenbjeaaGreatDoor.Ab
namespace Go.Proofs.YtkljckbaenbjeaaGreatDoor.Ab
open Go
set_option linter.unusedSimpArgs false
set_option maxRecDepth 100000
set_option linter.unusedVariables false
set_option maxHeartbeats 4000000
theorem o1 : Int.ofNat 1 = 1 := rfl
theorem iquo64 {a b : Int} (hb : 0 < b) (h1 : -4611686018427387904 ≤ a) (h2 : a ≤ 4611686018427387904) : iquo .i64 a b = a.tdiv b := by
 unfold iquo
 refine IntWalk.i64_in _ ?_
 have h := Int.natAbs_tdiv_le_natAbs a b
 omega
theorem tdiv_d {a b : Int} (hb : 0 < b) : a.tdiv b = a / b + if 0 ≤ a ∨ b ∣ a then 0 else 1 := by
 rw [Int.tdiv_eq_ediv]
 rw [Int.sign_eq_one_of_pos hb]
theorem fdiv_ok (a b : Int) (hb : 0 < b) (h1 : -4611686018427387904 ≤ a) (h2 : a ≤ 4611686018427387904) : Pur F0 33 [I a, I b] [] .no (.ret (I (a / b))) .no := by
 have q1 : ieq b (Int.ofNat 0) = false := by rw [ieq_f, ofn]; show b ≠ 0; omega
 have q2 : ieq b (Int.negSucc 0) = false := by rw [ieq_f]; intro e; rw [e] at hb; exact absurd hb (by decide)
 have q3 : iz b = false := by rw [iz_f]; omega
 have q4 : ilt b (Int.ofNat 0) = false := by rw [ilt_f, ofn]; show (0 : Int) ≤ b; omega
 have e1 := iquo64 hb h1 h2
 have e2 := tdiv_d (a := a) hb
 have e3 : irem a b = a.tmod b := by unfold irem; rfl
 have e4 : a.tmod b = 0 ↔ b ∣ a := Int.dvd_iff_tmod_eq_zero.symm
 have hl : -4611686018427387904 ≤ a.tdiv b ∧ a.tdiv b ≤ 4611686018427387904 := by
  have h := Int.natAbs_tdiv_le_natAbs a b
  omega
 by_cases hd : b ∣ a
 · have q5 : (!ieq (irem a b) (Int.ofNat 0)) = false := by rw [Bool.not_eq_false', ieq_t, e3, ofn]; exact e4.2 hd
   have hr : iquo .i64 a b = a / b := by rw [e1, e2, if_pos (.inr hd)]; omega
   refine pur_code code33_ok ?_
   conv => whnf
   repeat' ((first | refine bt ?_ | refine bf ?_ | refine vl ?_ | fail) <;> conv => whnf)
   exact ⟨retI hr, rfl⟩
 · have q5 : (!ieq (irem a b) (Int.ofNat 0)) = true := by rw [Bool.not_eq_true', ieq_f, e3, ofn]; exact fun h => hd (e4.1 h)
   by_cases ha : 0 ≤ a
   · have q6 : ilt a (Int.ofNat 0) = false := by rw [ilt_f, ofn]; exact ha
     have q7 : (!(ilt a (Int.ofNat 0) == ilt b (Int.ofNat 0))) = false := by rw [q6, q4]; rfl
     have hr : iquo .i64 a b = a / b := by rw [e1, e2, if_pos (.inl ha)]; omega
     refine pur_code code33_ok ?_
     conv => whnf
     repeat' ((first | refine bt ?_ | refine bf ?_ | (rw [q7]) | refine vl ?_ | fail) <;> conv => whnf)
     exact ⟨retI hr, rfl⟩
   · have q6 : ilt a (Int.ofNat 0) = true := by rw [ilt_t, ofn]; show a < 0; omega
     have q7 : (!(ilt a (Int.ofNat 0) == ilt b (Int.ofNat 0))) = true := by rw [q6, q4]; rfl
     have hr : isub .i64 (iquo .i64 a b) (Int.ofNat 1) = a / b := by
      rw [e1, isub64 (by rw [o1]; omega) (by rw [o1]; omega), o1, e2, if_neg (by rintro (h | h); exact ha h; exact hd h)]; omega
     refine pur_code code33_ok ?_
     conv => whnf
     repeat' ((first | refine bt ?_ | refine bf ?_ | (rw [q7]) | refine vl ?_ | fail) <;> conv => whnf)
     exact ⟨retI hr, rfl⟩
end Go.Proofs.YtkljckbaenbjeaaGreatDoor.Ab
namespace Go.Proofs.YtkljckbaenbjeaaGreatDoor.Ab
open Go
set_option linter.unusedSimpArgs false
set_option maxRecDepth 100000
set_option linter.unusedVariables false
set_option maxHeartbeats 4000000
def withinS (n : Int) : Bool := decide (0 ≤ n) && isPx n
theorem ewithin_ok (n : Int) : Pur F0 28 [I n] [] .no (.ret (B (withinS n))) .no := by
 refine pur_code code28_ok ?_
 conv => whnf
 repeat' ((first | refine bt ?_ | refine bf ?_ | refine vpur_i (fixedIs_ok _) ?_ | refine vl ?_ | refine vb_i (fun h => ?_) (fun h => ?_) | fail) <;> conv => whnf)
 all_goals (refine ⟨retB ?_, rfl⟩; simp_all [withinS, ile_t, ile_f, lit0])
 all_goals (intro h; omega)
theorem rwithin_ok (n : Int) : Pur F0 36 [I n] [] .no (.ret (B (withinS n))) .no := by
 refine pur_code code36_ok ?_
 conv => whnf
 repeat' ((first | refine bt ?_ | refine bf ?_ | refine vl ?_ | refine vb_i (fun h => ?_) (fun h => ?_) | fail) <;> conv => whnf)
 all_goals (refine ⟨retB ?_, rfl⟩; simp_all [withinS, isPx, ile_t, ile_f, ile_d, lit0])
 all_goals (intro h; omega)
def brS (t : Trk) (size : Int) : Int × Int :=
 if (fixedT t && rightT t && withinS size) = false then (0, 2)
 else if (lenR t.ak t.an size true).2.2 ≠ 0 then (0, (lenR t.ak t.an size true).2.2)
 else if (lenR t.bk t.bn size true).2.2 ≠ 0 then (0, (lenR t.bk t.bn size true).2.2)
 else (if (lenR t.bk t.bn size true).2.1 = true then imax (if (lenR t.ak t.an size true).2.1 = true then imax 64 (lenR t.ak t.an size true).1 else 64) (lenR t.bk t.bn size true).1
  else if (lenR t.ak t.an size true).2.1 = true then imax 64 (lenR t.ak t.an size true).1 else 64, 0)
theorem pct_0 {m b : Int} (h : (pct m b).2 ≠ 0) : (pct m b).1 = 0 := by
 unfold pct at *
 split
 · rename_i h1
   rw [if_pos h1] at h
   split
   · rename_i h2; rw [if_pos h2] at h; exact (h rfl).elim
   · rfl
 · rfl
theorem lenR_0 {k n b : Int} {d : Bool} (h : (lenR k n b d).2.1 = false) : (lenR k n b d).1 = 0 := by
 unfold lenR at *
 split at h
 · cases h
 · rename_i h1
   rw [if_neg h1]
   split at h
   · rename_i h2
     rw [if_pos h2]
     simp only [decide_eq_false_iff_not] at h
     exact pct_0 h
   · rename_i h2
     rw [if_neg h2]
theorem breadth_ok (t : Trk) (size : Int) : Pur F0 32 [trkA t, I size] [] .no (.ret (.tup [I (brS t size).1, I (brS t size).2])) .no := by
 have f1 := fixed_ok t
 have f2 := right_ok t
 have f3 := ewithin_ok size
 have a1 := resolve_ok t.ak t.an size true
 have a2 := resolve_ok t.bk t.bn size true
 have l1 : ilt (Int.ofNat 0) (Int.ofNat 2) = true := by rw [ilt_t]; decide
 have l2 : ilt (Int.ofNat 1) (Int.ofNat 2) = true := by rw [ilt_t]; decide
 have l3 : ilt (Int.ofNat 2) (Int.ofNat 2) = false := by rw [ilt_f]; decide
 have j1 : (ile 0 (Int.ofNat 0) && ilt (Int.ofNat 0) (Int.ofNat 2)) = true := by rw [l1, show ile 0 (Int.ofNat 0) = true from by rw [ile_t]; decide]; rfl
 have j2 : (ile 0 (Int.ofNat 1) && ilt (Int.ofNat 1) (Int.ofNat 2)) = true := by rw [l2, show ile 0 (Int.ofNat 1) = true from by rw [ile_t]; decide]; rfl
 have i1 : iadd .i64 (Int.ofNat 0) (Int.ofNat 1) = Int.ofNat 1 := by rw [iadd64] <;> decide
 have i2 : iadd .i64 (Int.ofNat 1) (Int.ofNat 1) = Int.ofNat 2 := by rw [iadd64] <;> decide
 unfold brS
 generalize fixedT t = x at *
 generalize rightT t = y at *
 generalize withinS size = z at *
 generalize lenR t.ak t.an size true = r at *
 generalize lenR t.bk t.bn size true = s at *
 obtain ⟨n, is, e⟩ := r
 obtain ⟨m, js, f⟩ := s
 obtain ⟨ak, an, bk, bn, fit, lk, ln⟩ := t
 refine pur_code code32_ok ?_
 conv => whnf
 repeat' ((first | refine bt ?_ | refine bf ?_ | refine vpur_i f1 ?_ | refine vpur_i f2 ?_ | refine vpur_i f3 ?_ | refine vpur_i a1 ?_ | refine vpur_i a2 ?_ | (rw [i1]) | (rw [i2]) | refine vloop_once ?_ | refine vl ?_ | refine vb_i (fun h => ?_) (fun h => ?_) | fail) <;> conv => whnf)
 all_goals (refine ⟨?_, rfl⟩; simp_all [lit0, lit2, lit64, ieq_t, ieq_f])
theorem rbreadth_ok (t : Trk) (size : Int) : Pur F0 67 [trkA t, I size] [] .no (.ret (.tup [I (brS t size).1, I (brS t size).2])) .no := by
 have f1 := rfixed_ok t
 have f2 := rright_ok t
 have f3 := rwithin_ok size
 have a1 := rresolve_ok t.ak t.an size true
 have a2 := rresolve_ok t.bk t.bn size true
 have z1 := lenR_0 (k := t.ak) (n := t.an) (b := size) (d := true)
 have z2 := lenR_0 (k := t.bk) (n := t.bn) (b := size) (d := true)
 unfold brS
 generalize fixedT t = x at *
 generalize rightT t = y at *
 generalize withinS size = z at *
 generalize lenR t.ak t.an size true = r at *
 generalize lenR t.bk t.bn size true = s at *
 obtain ⟨n, is, e⟩ := r
 obtain ⟨m, js, f⟩ := s
 obtain ⟨ak, an, bk, bn, fit, lk, ln⟩ := t
 refine pur_code code67_ok ?_
 conv => whnf
 repeat' ((first | refine bt ?_ | refine bf ?_ | refine vpur_i f1 ?_ | refine vpur_i f2 ?_ | refine vpur_i f3 ?_ | refine vpur_i a1 ?_ | refine vpur_i a2 ?_ | refine vl ?_ | refine vb_i (fun h => ?_) (fun h => ?_) | fail) <;> conv => whnf)
 all_goals (refine ⟨?_, rfl⟩; simp_all [lit0, lit2, lit64, ieq_t, ieq_f, ilt_t, ilt_f, imax])
 all_goals (try ((repeat' split) <;> omega))
 all_goals (cases is <;> simp_all <;> ((repeat' split) <;> omega))
end Go.Proofs.YtkljckbaenbjeaaGreatDoor.Ab
namespace Go.Proofs.YtkljckbaenbjeaaGreatDoor.Ab
open Go
set_option linter.unusedSimpArgs false
set_option maxRecDepth 100000
set_option linter.unusedVariables false
set_option maxHeartbeats 4000000
theorem efills_ok (k : Int) : Pur F0 15 [I k] [] .no (.ret (B (pb (AutoK k)))) .no := by
 refine pur_code code15_ok ?_
 conv => whnf
 repeat' ((first | refine bt ?_ | refine bf ?_ | refine vl ?_ | refine vb_i (fun h => ?_) (fun h => ?_) | fail) <;> conv => whnf)
 all_goals (refine ⟨retB ?_, rfl⟩; rw [Bool.eq_iff_iff, pb_iff]; simp_all [AutoK, ieq_t, ieq_f, lit4, lit5])
theorem count1_ok (p : Pc) : Pur F0 30 [pcA p] [] .no (.ret (B (pb (AutoK p.kind)))) .no := by
 have hf := efills_ok p.kind
 cases p with
 | mk kd vn names t c vi inner =>
 refine pur_code code30_ok ?_
 conv => whnf
 repeat' ((first | refine bt ?_ | refine bf ?_ | refine vpur_i hf ?_ | refine vl ?_ | fail) <;> conv => whnf)
 exact ⟨rfl, rfl⟩
theorem indexF_ok (l : List Pc) (hlen : l.length ≤ 1000000) : ∃ n : Int, Pur F0 59 [.d (.sl 11 (l.map pcRow)), .fn .pure 30 [] []] [] .no (.ret (I n)) .no ∧ (0 ≤ n ↔ ∃ p ∈ l, AutoK p.kind) := by
 refine pur_ret (g := I) code59_ok ?_
 conv => whnf
 repeat' ((first | refine bt ?_ | refine bf ?_ | refine vl ?_ | fail) <;> conv => whnf)
 refine vloop_cnt (α := Unit) l.length (fun k _ => ∀ (i : Nat) (p : Pc), i < k → l[i]? = some p → ¬ AutoK p.kind) (fun k _ => [(8, I (k : Int))]) () (fun i p h => by omega) rfl ?_
 intro k _ hk hI
 conv => whnf
 by_cases hlt : k < l.length
 · obtain ⟨p, hp⟩ := get_in hlt
   have hg := iget_map (f := pcRow) hp
   have hl := lt_len (f := pcRow) hlt
   have hc := count1_ok p
   by_cases hA : AutoK p.kind
   · rw [pb_t hA] at hc
     have hE : ∃ p ∈ l, AutoK p.kind := ⟨p, List.mem_of_getElem? hp, hA⟩
     clear hp
     cases p with
     | mk kd vn names t c vi inner =>
     repeat' ((first | refine bt ?_ | refine bf ?_ | refine vo_i hg ?_ | refine vpur_i hc ?_ | refine vl ?_ | fail) <;> conv => whnf)
     exact ⟨(k : Int), rfl, rfl, fun _ => hE, fun _ => by omega⟩
   · rw [pb_f hA] at hc
     have hn := upto_succ (P := fun _ p => ¬ AutoK p.kind) hI hp hA
     clear hp
     cases p with
     | mk kd vn names t c vi inner =>
     repeat' ((first | refine bt ?_ | refine bf ?_ | refine vo_i hg ?_ | refine vpur_i hc ?_ | refine vl ?_ | fail) <;> conv => whnf)
     exact ⟨⟨(k + 1, ()), (by omega), hn⟩, (by simp only; omega), (by repeat' (first | exact rfl | exact slot_eq (I_eq (iadd_one (by omega))) | (refine cons_eq ?_ ?_) | assumption)), rfl, rfl, rfl⟩
 · have hl := nlt_len (f := pcRow) hlt
   have hE : ¬ ∃ p ∈ l, AutoK p.kind := by
    rintro ⟨p, hp, hA⟩
    exact lt_idx (P := fun p => ¬ AutoK p.kind) (fun i p h h1 => hI i p (by omega) h1) p hp hA
   repeat' ((first | refine bt ?_ | refine bf ?_ | refine vb_f (by (first | omega | (simp only [ilt_t, ilt_f, ile_t, ile_f, ieq_t, ieq_f, ofn, List.length_map, Bool.not_eq_true', Bool.not_eq_false'] at *; omega))) ?_ | refine vl ?_ | fail) <;> conv => whnf)
   exact ⟨-1, rfl, rfl, fun h => by omega, fun h => (hE h).elim⟩
theorem drp_of_pur {F : Nat → Option Fn} {f : Nat} {args : List AV} {h : Heap} {rc : Rec} {c : CR} {rc' : Rec} (hp : Pur F f args h rc c rc') : Drp F 0 f args h rc c [] rc' := by
 obtain ⟨r, h1, h2, h3⟩ := hp
 exact ⟨r, h1, h2, rfl, h3⟩
theorem containsP_ok (l : List Pc) (hlen : l.length ≤ 1000000) : Pur F0 29 [.d (.sl 11 (l.map pcRow)), .fn .pure 30 [] []] [] .no (.ret (B (pb (∃ p ∈ l, AutoK p.kind)))) .no := by
 obtain ⟨n, h1, h2⟩ := indexF_ok l hlen
 have h1 := drp_of_pur h1
 refine pur_code code29_ok ?_
 conv => whnf
 repeat' ((first | refine bt ?_ | refine bf ?_ | refine vdrp_i h1 ?_ | refine vl ?_ | fail) <;> conv => whnf)
 refine ⟨retB ?_, rfl⟩
 rw [Bool.eq_iff_iff, pb_iff, ile_t, ← h2]
 exact Iff.rfl
end Go.Proofs.YtkljckbaenbjeaaGreatDoor.Ab
namespace Go.Proofs.YtkljckbaenbjeaaGreatDoor.Ab
open Go
set_option linter.unusedSimpArgs false
set_option maxRecDepth 100000
set_option linter.unusedVariables false
set_option maxHeartbeats 4000000
def ibx (ty : Nat) (x : Int) : Obj := ⟨.mine, ty, .fix [I x]⟩
def ar2 (a b : Int) : Obj := ⟨.mine, 66, .fix [I a, I b]⟩
def rcs (n s : Nat) (c : List AV) : Obj := ⟨.mine, 0, .lp n s c⟩
def cth (s : Nat) (c : List AV) (size gap rn re s0 s1 m0 m1 : Int) : Heap := [rcs 12 s c, ibx 3 size, ibx 3 rn, ibx 29 re, ar2 s0 s1, ibx 3 gap, ar2 m0 m1]
def ctC : List AV := [.ptr 1 0, .ptr 2 0, .ptr 3 0, .ptr 4 0, .ptr 5 0, .ptr 6 0]
theorem ix1 : (ile 0 (Int.ofNat 1) && ilt (Int.ofNat 1) ((2 : Nat) : Int)) = true := by rw [Bool.and_eq_true, ile_t, ilt_t]; decide
theorem ix0 : (ile 0 (Int.ofNat 0) && ilt (Int.ofNat 0) ((2 : Nat) : Int)) = true := by rw [Bool.and_eq_true, ile_t, ilt_t]; decide
theorem ctround_other (q : Pc) (t size gap s0 s1 m0 m1 : Int) (hq : q.kind ≠ 2) :
 CallsTo F0 (1048576 + 12) [.yld .opn 12 0, pcA q, I t] (cth 0 ctC size gap 0 0 s0 s1 m0 m1) .no ⟨.ret (B true), cth 0 ctC size gap 0 0 s0 s1 m0 m1 ++ [pco q], .no⟩ := by
 cases q with
 | mk kd vn names t c vi inner =>
 simp only [Pc.kind] at hq
 have q1 : (!ieq kd (Int.ofNat 2)) = true := by rw [Bool.not_eq_true', ieq_f]; exact hq
 refine calls_round round12_ok ?_
 conv => whnf
 repeat' ((first | refine bt ?_ | refine bf ?_ | refine vl ?_ | fail) <;> conv => whnf)
 exact rfl
theorem ctround_err (q : Pc) (t size gap s0 s1 m0 m1 : Int) (hq : q.kind = 2) (he : (brS q.t size).2 ≠ 0) :
 CallsTo F0 (1048576 + 12) [.yld .opn 12 0, pcA q, I t] (cth 0 ctC size gap 0 0 s0 s1 m0 m1) .no ⟨.ret (B false), cth 2 ctC size gap 0 (brS q.t size).2 s0 s1 m0 m1 ++ [pco q], .no⟩ := by
 cases q with
 | mk kd vn names tr c vi inner =>
 obtain ⟨ak, an, bk, bn, fit, lk, ln⟩ := tr
 simp only [Pc.kind] at hq
 simp only [Pc.t] at he ⊢
 have q1 : (!ieq kd (Int.ofNat 2)) = false := by rw [Bool.not_eq_false', ieq_t]; exact hq
 have hb := breadth_ok ⟨ak, an, bk, bn, fit, lk, ln⟩ size
 generalize brS ⟨ak, an, bk, bn, fit, lk, ln⟩ size = r at hb he ⊢
 obtain ⟨n, e⟩ := r
 have q2 : (!ieq e (Int.ofNat 0)) = true := by rw [Bool.not_eq_true', ieq_f]; exact he
 refine calls_round round12_ok ?_
 conv => whnf
 repeat' ((first | refine bt ?_ | refine bf ?_ | refine vpur_i hb ?_ | refine vb_t ix1 ?_ | refine vb_t ix0 ?_ | refine vl ?_ | fail) <;> conv => whnf)
 exact rfl
theorem ctround_fill (q : Pc) (size gap s0 s1 m0 m1 : Int) (hq : q.kind = 2) (he : (brS q.t size).2 = 0) :
 CallsTo F0 (1048576 + 12) [.yld .opn 12 0, pcA q, I 0] (cth 0 ctC size gap 0 0 s0 s1 m0 m1) .no ⟨.ret (B true), cth 0 ctC size gap 0 0 s0 (iadd .i64 s1 (imul .i64 (Int.ofNat 1) (iadd .i64 (brS q.t size).1 gap))) m0 (iadd .i64 m1 (Int.ofNat 1)), .no⟩ := by
 cases q with
 | mk kd vn names tr c vi inner =>
 obtain ⟨ak, an, bk, bn, fit, lk, ln⟩ := tr
 simp only [Pc.kind] at hq
 simp only [Pc.t] at he ⊢
 have q1 : (!ieq kd (Int.ofNat 2)) = false := by rw [Bool.not_eq_false', ieq_t]; exact hq
 have hb := breadth_ok ⟨ak, an, bk, bn, fit, lk, ln⟩ size
 generalize brS ⟨ak, an, bk, bn, fit, lk, ln⟩ size = r at hb he ⊢
 obtain ⟨n, e⟩ := r
 simp only at he
 subst he
 have q2 : (!ieq 0 (Int.ofNat 0)) = false := by rw [Bool.not_eq_false', ieq_t]; rfl
 have q3 : ieq 0 (Int.ofNat 0) = true := by rw [ieq_t]; rfl
 refine calls_round round12_ok ?_
 conv => whnf
 repeat' ((first | refine bt ?_ | refine bf ?_ | refine vpur_i hb ?_ | refine vb_t ix1 ?_ | refine vb_t ix0 ?_ | refine vl ?_ | fail) <;> conv => whnf)
 exact rfl
theorem ctround_rep (q : Pc) (t size gap s0 s1 m0 m1 : Int) (hq : q.kind = 2) (he : (brS q.t size).2 = 0) (ht : t ≠ 0) :
 CallsTo F0 (1048576 + 12) [.yld .opn 12 0, pcA q, I t] (cth 0 ctC size gap 0 0 s0 s1 m0 m1) .no ⟨.ret (B true), cth 0 ctC size gap 0 0 (iadd .i64 s0 (imul .i64 t (iadd .i64 (brS q.t size).1 gap))) s1 (iadd .i64 m0 t) m1, .no⟩ := by
 cases q with
 | mk kd vn names tr c vi inner =>
 obtain ⟨ak, an, bk, bn, fit, lk, ln⟩ := tr
 simp only [Pc.kind] at hq
 simp only [Pc.t] at he ⊢
 have q1 : (!ieq kd (Int.ofNat 2)) = false := by rw [Bool.not_eq_false', ieq_t]; exact hq
 have hb := breadth_ok ⟨ak, an, bk, bn, fit, lk, ln⟩ size
 generalize brS ⟨ak, an, bk, bn, fit, lk, ln⟩ size = r at hb he ⊢
 obtain ⟨n, e⟩ := r
 simp only at he
 subst he
 have q2 : (!ieq 0 (Int.ofNat 0)) = false := by rw [Bool.not_eq_false', ieq_t]; rfl
 have q3 : ieq t (Int.ofNat 0) = false := by rw [ieq_f]; exact ht
 refine calls_round round12_ok ?_
 conv => whnf
 repeat' ((first | refine bt ?_ | refine bf ?_ | refine vpur_i hb ?_ | refine vb_t ix1 ?_ | refine vb_t ix0 ?_ | refine vl ?_ | fail) <;> conv => whnf)
 exact rfl
end Go.Proofs.YtkljckbaenbjeaaGreatDoor.Ab
