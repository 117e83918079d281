/- What is known without its text, held against the model; the program's functions are in order. -/
import Derived.Test.YtlhajccbfapieaaGreatDoorAbCfg
import Derived.Test.YtlhajccbfapieaaGreatDoorAbJoin
import Derived.Lib.Builder
import Derived.Lib.AppendIntMem
import Derived.Below
import Derived.Test.YtlhajccbfapieaaGreatDoorAbShelf
namespace Go.Proofs.YtlhajccbfapieaaGreatDoor.Ab
open Go Go.RowKit
set_option linter.unusedVariables false
set_option linter.unusedSimpArgs false
theorem known_of {P : Program} {cfg : Cfg} {f : Nat} {fn : Func} {g : List AV → Option AV} {e : Array Value → Sem Value} (hf : P.funcs[f]? = some fn) (hname : (fn.name == "runtime.NumGoroutine") = false) (hb : fn.body.isNone = true)
 (hn : Extern.findNext fn = none) (he : Extern.find fn = some e)
 (h : ∀ (c : Cx) (vals : Array Value) (args : List AV) (v : AV), relL c args vals.toList → g args = some v → ∃ u, (e vals).run P c.w = .ok u c.w ∧ relA c v u) : KnownOk P cfg f g := by
 intro c vals args cs v ok gl hrel hg
 obtain ⟨u, h1, h2⟩ := h c vals args v hrel hg
 refine ⟨c, .returned u, ok, Goes.refl c, rfl, ⟨u, rfl, h2⟩, .inr ⟨rfl, rfl, u, rfl, ?_⟩⟩
 rw [run_callFunc_extern hf hname hb hn he, h1]
 rfl
theorem noEscape_known : KnownOk Tryz.prog (cfg0 Tryz.prog) 143 kNoEscape := by
 refine known_of (e := Extern.AbiNoEscape.same) Tryz.func143 (by kernel_rfl) (by kernel_rfl) (by kernel_rfl) (by kernel_rfl) fun c vals args v hrel hg => ?_
 unfold kNoEscape at hg
 split at hg
 · rename_i x
   obtain ⟨u, e, h1⟩ := rel1 hrel
   obtain rfl : vals = #[u] := by rw [← Array.toArray_toList (xs := vals), e]
   exact ⟨u, Lib.run_noEscape c.w u, by rw [force_eq hg]; exact h1⟩
 · cases hg
theorem indexByte_known : KnownOk Tryz.prog (cfg0 Tryz.prog) 160 kIndexByte := by
 refine known_of (e := Extern.BytealgIndexByte.indexByte) Tryz.func160 (by kernel_rfl) (by kernel_rfl) (by kernel_rfl) (by kernel_rfl) fun c vals args v hrel hg => ?_
 unfold kIndexByte at hg
 split at hg
 · rename_i s n
   cases hg
   obtain ⟨u, t, e, h1, h2⟩ := rel2 hrel
   obtain rfl : vals = #[u, t] := by rw [← Array.toArray_toList (xs := vals), e]
   simp only [relA, relD] at h1 h2
   subst h1 h2
   refine ⟨_, Lib.run_indexByteString _ _ _, ?_⟩
   simp only [relA, relD]
 · cases hg
theorem grown {c : Cx} (ok : Ok c) {w' : World} (hb : Below c.w.heap.size c.w w') : Ok { c with w := w' } ∧ Goes c { c with w := w' } := by
 have G : Goes c { c with w := w' } := by
  refine ⟨hb.os, hb.tape, hb.output, hb.size, fun b h _ => hb.block b h, fun _ _ h => h, fun _ _ h => h, fun _ h _ => h, fun _ _ _ h => .inl h, fun i o h => ⟨o, h, .inl rfl, ?_⟩⟩
  obtain ⟨own, ty, b⟩ := o
  cases b with
  | fix cs => simp [OB.goes]
  | lp => simp [OB.goes]
  | arr nl g sz rows =>
   refine ⟨Nat.le_refl _, fun _ => ⟨rfl, rfl, rfl, rfl, fun b q hp => ?_⟩⟩
   have hlt := ok.block_lt hp
   unfold csize
   rw [hb.block b hlt]
 exact ⟨⟨ok.len, ok.apart, fun b h => Nat.lt_of_lt_of_le (ok.fbs b h) hb.size, fun i o h => relO_goes G ok (ok.obj i o h) rfl (fun b q hbq => hb.block b (ok.block_lt hbq)) fun _ _ _ => Iff.rfl⟩, G⟩
theorem known_calls {P : Program} {cfg : Cfg} {f : Nat} {g : List AV → Option AV} (he : ∀ vals w, (callFunc f vals).run P w = .ok (.enter f vals) w)
 (h : ∀ (c : Cx) (vals : Array Value) (args : List AV) (v : AV), Ok c → Glob cfg c → relL c args vals.toList → g args = some v →
  Calls P f vals c.w fun e w' => ∃ s : List UInt8, v = S s ∧ e = .returned (.string ⟨s.toArray⟩) ∧ Below c.w.heap.size c.w w') : KnownOk P cfg f g := by
 intro c vals args cs v ok gl hrel hg
 obtain ⟨e, w', fr, ⟨s, rfl, rfl, hb⟩, hst, hf, hl⟩ := h c vals args v ok gl hrel hg cs
 obtain ⟨ok', G⟩ := grown ok hb
 obtain ⟨l1, l2, l3, l4⟩ := hl
 exact ⟨{ c with w := w' }, _, ok', G, rfl, ⟨_, rfl, by simp [relA, relD]⟩, .inl ⟨he vals c.w, fr, cs, CsGo.refl _ _, ⟨rfl, rfl⟩, hst, hf, l3, l1, l2, l4⟩⟩
theorem tab_of_glob {P : Program} {cfg : Cfg} {c : Cx} (gl : Glob cfg c) {g : Nat} {zs : List Int} {k : IntKind} {name : String} (hg : cfg.glob g = some (zs.map fun z => DV.int k z)) (hn : P.globalNamed name = some g) (hne : zs ≠ []) : Lib.TabIs P c.w name k zs := by
 obtain ⟨h1, h2⟩ := gl g _ hg
 have h2 := h2 (by simpa using hne)
 rw [relCells_iff] at h1
 unfold Lib.TabIs World.var?
 rw [hn]
 simp only [Option.bind_some]
 have hz : 0 < zs.length := List.length_pos_iff.2 hne
 simp only [List.length_map] at h2
 unfold csize at h2
 split at h2
 · rename_i cs e fz hh
   rw [hh]
   simp only [Option.some.injEq]
   apply Array.ext
   · simpa using h2
   · intro i hi1 hi2
     have hi : i < zs.length := by rw [← h2]; exact hi1
     obtain ⟨_, v, hv, hr⟩ := h1 i (DV.int k zs[i]) (by simp [hi])
     rw [cel_eq hh] at hv
     simp only [relD] at hr
     subst hr
     rw [Nat.zero_add, Array.getElem?_eq_getElem hi1] at hv
     simpa using hv
 · omega
theorem enters {P : Program} {f : Nat} {fn : Func} (hf : P.funcs[f]? = some fn) (hb : fn.body.isSome = true) (hn : (fn.name == "runtime.NumGoroutine") = false) (vals : Array Value) (w : World) : (callFunc f vals).run P w = .ok (.enter f vals) w := by
 obtain ⟨body, h⟩ := Option.isSome_iff_exists.1 hb
 exact run_callFunc hf h hn vals w
theorem rowStrs_get : ∀ {rows : List (List DV)} {l : List (List UInt8)}, rowStrs rows = some l → l.length = rows.length ∧ ∀ (j : Nat) s, l[j]? = some s → rows[j]? = some [.str s]
 | [], l, h => by simp only [rowStrs, Option.some.injEq] at h; subst h; simp
 | r :: rows, l, h => by
  simp only [rowStrs] at h
  split at h
  · rename_i s t h1 h2
    cases h
    obtain ⟨h3, h4⟩ := rowStrs_get h2
    have h5 : r = [.str s] := by
     unfold rowStr at h1
     split at h1
     · cases h1; rfl
     · cases h1
    refine ⟨by simp [h3], fun j x hj => ?_⟩
    cases j with
    | zero => simp at hj; subst hj; simp [h5]
    | succ j => simpa using h4 j x (by simpa using hj)
  · cases h
theorem itoa_known : KnownOk Tryz.prog (cfg0 Tryz.prog) 66 kItoa := by
 refine known_calls (enters Tryz.func66 (by kernel_rfl) (by kernel_rfl)) fun c vals args v ok gl hrel hg => ?_
 unfold kItoa at hg
 split at hg
 · rename_i n
   split at hg
   · rename_i hn
     cases hg
     rw [Bool.and_eq_true, decide_eq_true_eq, decide_eq_true_eq] at hn
     obtain ⟨u, e, h1⟩ := rel1 hrel
     obtain rfl : vals = #[u] := by rw [← Array.toArray_toList (xs := vals), e]
     simp only [relA, relD] at h1
     subst h1
     have htab : Lib.TabIs Tryz.prog c.w "internal/strconv.uint64pow10" .u64 Lib.pow10Tab := tab_of_glob gl (g := 1) (by kernel_rfl) (by kernel_rfl) (by decide)
     refine (Tryz.strconv_Itoa n hn.1 hn.2 c.w htab).mono fun e w' h => ?_
     obtain ⟨rfl, k, os, rfl⟩ := h
     exact ⟨_, rfl, rfl, Lib.below_grow _ _ (Nat.le_refl _) k os⟩
   · cases hg
 · cases hg
theorem join_known : KnownOk Tryz.prog (cfg0 Tryz.prog) 65 kJoin := by
 refine known_calls (enters Tryz.func65 (by kernel_rfl) (by kernel_rfl)) fun c vals args v ok gl hrel hg => ?_
 unfold kJoin at hg
 split at hg
 · rename_i sep
   cases hg
   obtain ⟨u, t, e, h1, h2⟩ := rel2 hrel
   obtain rfl : vals = #[u, t] := by rw [← Array.toArray_toList (xs := vals), e]
   simp only [relA, relD] at h1 h2
   subst h1 h2
   refine (Tryz.strings_Join_none _ _ _ c.w).mono fun e w' h => ?_
   obtain ⟨rfl, rfl⟩ := h
   exact ⟨_, rfl, rfl, Below.refl _ _⟩
 · rename_i rows sep
   split at hg
   · rename_i l hl
     split at hg
     · rename_i hb
       cases hg
       rw [Bool.and_eq_true, decide_eq_true_eq, decide_eq_true_eq] at hb
       obtain ⟨u, t, e, h1, h2⟩ := rel2 hrel
       obtain rfl : vals = #[u, t] := by rw [← Array.toArray_toList (xs := vals), e]
       simp only [relA, relD] at h1 h2
       subst h2
       obtain ⟨a, cap, rfl, hcap, hs, hr⟩ := h1
       obtain ⟨g1, g2⟩ := rowStrs_get hl
       rw [relRows_iff] at hr
       have hcel : ∀ (j : Nat) s, l[j]? = some s → c.w.cell? ⟨a.block, a.off + j, none⟩ = some (.string ⟨s.toArray⟩) := by
        intro j s hj
        obtain ⟨_, h4⟩ := hr j _ (g2 j s hj)
        rw [relCells_iff] at h4
        obtain ⟨_, v, hv, h5⟩ := h4 0 _ rfl
        simp only [relD] at h5
        subst h5
        simpa using hv
       rcases hs with rfl | hs
       · obtain rfl : l = [] := List.eq_nil_of_length_eq_zero g1
         refine (Tryz.strings_Join_none _ _ _ c.w).mono fun e w' h => ?_
         obtain ⟨rfl, rfl⟩ := h
         exact ⟨_, rfl, rfl, Below.refl _ _⟩
       · obtain ⟨bk, o, sp⟩ := a
         simp only at hs hcel
         subst hs
         cases l with
         | nil =>
          obtain rfl : rows = [] := List.eq_nil_of_length_eq_zero g1.symm
          refine (Tryz.strings_Join_none _ _ _ c.w).mono fun e w' h => ?_
          obtain ⟨rfl, rfl⟩ := h
          exact ⟨_, rfl, rfl, Below.refl _ _⟩
         | cons s0 l =>
          have hlen : ((s0 :: l).map fun s : List UInt8 => (⟨s.toArray⟩ : ByteArray)).length = rows.length := by simpa using g1
          have hj : Lib.join (((s0 :: l).map fun s : List UInt8 => (⟨s.toArray⟩ : ByteArray)).map (·.data.toList)) (⟨sep.toArray⟩ : ByteArray).data.toList = Lib.join (s0 :: l) sep := by simp [List.map_map, Function.comp_def]
          have K := Tryz.strings_Join bk o cap ((s0 :: l).map fun s : List UInt8 => (⟨s.toArray⟩ : ByteArray)) ⟨sep.toArray⟩ c.w (fun j x hx => by
           rw [List.getElem?_map, Option.map_eq_some_iff] at hx
           obtain ⟨s, h6, rfl⟩ := hx
           exact hcel j s h6) (cel_some_lt (hcel 0 s0 rfl)) (by rw [List.length_map]; exact hb.1) (by rw [hlen]; exact hcap) (by rw [hj]; exact hb.2)
          rw [hlen] at K
          refine K.mono fun e w' h => ?_
          obtain ⟨rfl, hbl⟩ := h
          exact ⟨_, rfl, by rw [hj], hbl⟩
     · cases hg
   · cases hg
 · cases hg
def AllK (P : Program) (cfg : Cfg) : List (Nat × (List AV → Option AV)) → Prop
 | [] => True
 | (i, g) :: l => KnownOk P cfg i g ∧ AllK P cfg l
theorem allK_ok {P : Program} {cfg : Cfg} : ∀ {l : List (Nat × (List AV → Option AV))} {f : Nat} {g : List AV → Option AV}, AllK P cfg l → lookK f l = some g → KnownOk P cfg f g
 | [], f, g, h, e => by cases e
 | (i, g') :: l, f, g, h, e => by
  unfold lookK at e
  split at e
  · rename_i hb
    cases e
    cases Nat.eq_of_beq_eq_true hb
    exact h.1
  · exact allK_ok h.2 e
theorem kNone_known {P : Program} {cfg : Cfg} {f : Nat} : KnownOk P cfg f kNone := fun c vals args cs v ok gl hrel hg => by cases hg
theorem F0_ok : FOk Tryz.prog (cfg0 Tryz.prog) F0 := by
 refine theF_ok (by kernel_rfl) (fun _ => rfl) fun f g h => allK_ok (l := knownL) ?_ h
 refine ⟨noEscape_known, ?_⟩
 refine ⟨indexByte_known, ?_⟩
 refine ⟨itoa_known, ?_⟩
 refine ⟨join_known, ?_⟩
 exact ⟨kNone_known, trivial⟩
end Go.Proofs.YtlhajccbfapieaaGreatDoor.Ab
