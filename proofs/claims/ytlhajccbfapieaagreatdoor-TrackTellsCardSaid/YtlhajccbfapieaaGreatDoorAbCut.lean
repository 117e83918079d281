/- A slice of an array that lies in an object: told as data; the object is written no more. -/
import Derived.Test.YtlhajccbfapieaaGreatDoorAbStep4
namespace Go.Proofs.YtlhajccbfapieaaGreatDoor.Ab
open Go
set_option linter.unusedVariables false
set_option linter.unusedSimpArgs false
section
variable {P : Program} {c : Cx} {ρ : Operand → Value} {o : Oper} {xs : List AV} {r : OR}
theorem deepRows_get : ∀ {sz n : Nat} {cs : List AV} {rows : List (List DV)}, deepRows sz n cs = some rows → rows.length = n ∧
 ∀ (r : Nat) row, rows[r]? = some row → row.length = sz ∧ ∀ (j : Nat) x, row[j]? = some x → cs[r * sz + j]? = some (.d x)
 | sz, 0, cs, rows, h => by simp only [deepRows, Option.some.injEq] at h; subst h; simp
 | sz, n + 1, cs, rows, h => by
  simp only [deepRows] at h
  split at h
  · rename_i r l h1 h2 h3
    cases h
    obtain ⟨e1, e2⟩ := deepRows_get h3
    have hle := Nat.le_of_ble_eq_true h1
    have hr := deepRow_eq h2
    have hlen : r.length = sz := by
     have := congrArg List.length hr
     simp at this
     omega
    refine ⟨by simp [e1], fun k row hk => ?_⟩
    cases k with
    | zero =>
     simp at hk
     subst hk
     refine ⟨hlen, fun j x hj => ?_⟩
     have hjl : j < sz := by rw [← hlen]; exact (List.getElem?_eq_some_iff.1 hj).1
     have h5 : (cs.take sz)[j]? = some (.d x) := by rw [hr, List.getElem?_map, hj]; rfl
     rw [Nat.zero_mul, Nat.zero_add]
     rwa [List.getElem?_take_of_lt hjl] at h5
    | succ k =>
     obtain ⟨f1, f2⟩ := e2 k row (by simpa using hk)
     refine ⟨f1, fun j x hj => ?_⟩
     have := f2 j x hj
     rw [List.getElem?_drop] at this
     rw [Nat.succ_mul, show k * sz + sz + j = sz + (k * sz + j) by omega]
     exact this
  · cases h
def Cx.shut (c : Cx) (i ty : Nat) (cs : List AV) : Cx := { c with Fb := fun b => c.Fb b ∧ c.bs[i]? ≠ some (some (b, 0)), h := c.h.set i ⟨.frozen, ty, .fix cs⟩ }
theorem shut_ok (ok : Ok c) {i ty : Nat} {own : Own} {cs : List AV} (hi : c.h[i]? = some ⟨own, ty, .fix cs⟩) (hl : own ≠ .lent) : Ok (c.shut i ty cs) ∧ Goes c (c.shut i ty cs) := by
 have hlt : i < c.h.length := (List.getElem?_eq_some_iff.1 hi).1
 have hO := ok.obj i _ hi
 simp only [relO] at hO
 obtain ⟨b0, hb0, hT, hcs, hfz, hf, hf', hc⟩ := hO
 have hget : ∀ j, (c.shut i ty cs).h[j]? = if j = i then some ⟨.frozen, ty, .fix cs⟩ else c.h[j]? := by
  intro j
  simp only [Cx.shut]
  by_cases hj : j = i
  · subst hj; rw [if_pos rfl, List.getElem?_set_self hlt]
  · rw [if_neg hj, List.getElem?_set_ne (Ne.symm hj)]
 have G : Goes c (c.shut i ty cs) := by
  refine ⟨rfl, rfl, rfl, Nat.le_refl _, fun _ _ _ => rfl, fun b hb hw => ?_, fun b hb h => h.1, fun b hb hn => ?_, fun j b q h => .inl h, fun j x hx => ?_⟩
  · obtain ⟨j, q, ty', x, h1, h2⟩ := hw
    rw [hget] at h1
    split at h1
    · cases h1
    · exact ⟨j, q, ty', x, h1, h2⟩
  · refine ⟨hb, fun e => ?_⟩
    rw [hb0] at e
    cases e
    cases own with
    | mine => exact hn ⟨i, 0, ty, .fix cs, hi, hb0⟩
    | lent => exact hl rfl
    | frozen => exact hf' rfl hb
  · by_cases hj : j = i
    · subst hj
      rw [hi] at hx
      cases hx
      refine ⟨⟨.frozen, ty, .fix cs⟩, by rw [hget, if_pos rfl], ?_, OB.goes_refl _ _ _⟩
      cases own with
      | mine => exact .inr ⟨rfl, rfl⟩
      | lent => exact absurd rfl hl
      | frozen => exact .inl rfl
    · exact ⟨x, by rw [hget, if_neg hj]; exact hx, .inl rfl, OB.goes_refl _ _ _⟩
 refine ⟨⟨by simp [Cx.shut, ok.len], ok.apart, fun b h => ok.fbs b h.1, fun j x hx => ?_⟩, G⟩
 rw [hget] at hx
 split at hx
 · rename_i hj
   subst hj
   cases hx
   simp only [relO]
   refine ⟨b0, hb0, hT, hcs, hfz, fun h => absurd rfl h, fun _ hh => hh.2 hb0, fun k x hk => ?_⟩
   obtain ⟨a1, v, a2, a3⟩ := hc k x hk
   exact ⟨a1, v, a2, relA_goes G ok x v a3⟩
 · rename_i hj
   refine relO_goes G ok (ok.obj j x hx) rfl (fun _ _ _ => rfl) fun b q hb => ⟨fun h => h.1, fun h => ⟨h, fun e => ?_⟩⟩
   exact hj (ok.apart j i b q 0 hb e)
theorem op_cuta (ok : Ok c) {t e : TypeId} {n : Nat} {i : TypeInfo} {x : Operand} {ol oh : Option Operand} (ho : o.op = .slice t x ol oh none) (hu : P.underlying t = some (.array n e)) (hi : P.info? e = some i)
 (hx : relL c xs ((x :: (optOpd ol ++ optOpd oh)).map ρ)) (hr : opSem c.h (.cuta n i.size ol.isSome oh.isSome) xs = some r) : OpRes P c ((execOp ρ o).run P c.w) r := by
 obtain ⟨a, ys, rfl, ha, hys⟩ := inCons hx
 cases a <;> try (simp only [opSem, reduceCtorEq] at hr; done)
 rename_i j k
 simp only [opSem] at hr
 split at hr
 · rename_i own ty cs hj
   split at hr
   · rename_i rows lo hi' hl hrows hb
     split at hr
     · rename_i rows' hcut
       cases hr
       have hl' : own ≠ .lent := by simpa using hl
       obtain ⟨ok', G⟩ := shut_ok ok hj hl'
       obtain ⟨h0, h1, h2, rfl⟩ := icut_some hcut
       obtain ⟨d1, d2⟩ := deepRows_get hrows
       rw [d1] at h2
       simp only [relA] at ha
       obtain ⟨_, b, hbs, hv⟩ := ha
       have hO := ok.obj j _ hj
       simp only [relO] at hO
       obtain ⟨b', hb', _, _, _, _, _, hc⟩ := hO
       rw [hbs] at hb'
       cases hb'
       have hrun := o_bounds (P := P) rfl rfl hys hb (isSlice := false) (n := n) (cap := n) rfl h0 h1 h2 (w := c.w)
       have hlen : ((rows.take hi'.toNat).drop lo.toNat).length = hi'.toNat - lo.toNat := by simp [d1]; omega
       refine ⟨c.shut j ty cs, .inl ⟨.slice (some (if n = lo.toNat then (⟨b, k, none⟩ : Addr) else (⟨b, k, none⟩ : Addr).add (lo.toNat * i.size))) (hi'.toNat - lo.toNat) (n - lo.toNat), ?_, ?_⟩, rfl, ok', G⟩
       · unfold execOp
         simp only [ho, Sem.run_bind, hv, Option.map_none, Instr.sliceAt, run_underlying hu, Result.andThen, Instr.sureAddr, hrun, run_sizeOf c.w hi, Sem.run_pure, Program.cellsOf, hi, Option.map_some, Option.getD_some]
         rfl
       · simp only [relA, relD]
         by_cases hz : n = lo.toNat
         · refine ⟨⟨b, k, none⟩, n - lo.toNat, by rw [if_pos hz, hlen], by rw [hlen]; omega, .inr rfl, ?_⟩
           rw [List.eq_nil_of_length_eq_zero (l := (rows.take hi'.toNat).drop lo.toNat) (by rw [hlen]; omega)]
           simp [relD.relRows]
         · refine ⟨⟨b, k + lo.toNat * i.size, none⟩, n - lo.toNat, by rw [if_neg hz, hlen, add_plain], by rw [hlen]; omega, .inr rfl, ?_⟩
           rw [relRows_iff]
           intro q row hrow
           simp only [List.getElem?_drop] at hrow
           have hlt : lo.toNat + q < hi'.toNat := by
            have := (List.getElem?_eq_some_iff.1 hrow).1
            simp at this; omega
           rw [List.getElem?_take_of_lt hlt] at hrow
           obtain ⟨f1, f2⟩ := d2 _ row hrow
           refine ⟨f1, ?_⟩
           rw [relCells_iff]
           intro m y hm
           have hg := f2 m y hm
           rw [List.getElem?_drop] at hg
           obtain ⟨_, v, a2, a3⟩ := hc _ _ hg
           refine ⟨fun hf => hf.2 hbs, v, ?_, relD_stays (G.stays ok) y v (by simpa [relA] using a3)⟩
           have e : (⟨b, k + lo.toNat * i.size, none⟩ : Addr).off + q * i.size + m = k + ((lo.toNat + q) * i.size + m) := by
            show k + lo.toNat * i.size + q * i.size + m = _
            rw [Nat.add_mul]
            omega
           rw [e]
           exact a2
     · cases hr
   · cases hr
 · cases hr
end
end Go.Proofs.YtlhajccbfapieaaGreatDoor.Ab
