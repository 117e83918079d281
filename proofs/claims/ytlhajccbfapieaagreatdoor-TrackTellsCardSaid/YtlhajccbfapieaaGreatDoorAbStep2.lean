/- Each operation of the model against the interpreter's: the rest, and all of them. -/
import Derived.Test.YtlhajccbfapieaaGreatDoorAbStep
import Derived.Test.YtlhajccbfapieaaGreatDoorAbUns
import Derived.Laws.IdiomStrings
import Derived.Laws.MakeOwn
namespace Go.Proofs.YtlhajccbfapieaaGreatDoor.Ab
open Go
set_option linter.unusedVariables false
set_option linter.unusedSimpArgs false
section
variable {P : Program} {c : Cx}
theorem o_un {op : UnOp} {x z : AV} {v : Value} (h : relA c x v) (hu : unA op x = some z) {w : World} : ∃ u, (Op.unary op v).run P w = .ok u w ∧ relA c z u := by
 unfold unA at hu
 split at hu <;> cases hu <;> simp only [relA, relD] at h <;> subst h
 · exact ⟨_, by simp [Op.unary, Op.intArith]; rfl, by simp [relA, relD, isub]⟩
 · exact ⟨_, by simp [Op.unary]; rfl, by simp [relA, relD]⟩
 · exact ⟨_, by simp [Op.unary, Op.intBits]; rfl, by simp [relA, relD, ixor]⟩
theorem o_cvi {k k' : IntKind} {n : Int} {src dst : TypeId} (hs : (P.underlying src).isSome = true) (hd : P.underlying dst = some (.int k)) {w : World} :
 (convert src dst (.int k' n)).run P w = .ok (.int k (icast k n)) w := by
 obtain ⟨d, hs⟩ := Option.isSome_iff_exists.1 hs
 simp only [convert, Sem.run_bind, run_underlying hs, run_underlying hd, Result.andThen]
 simp [Conv.intToInt, icast]
theorem o_cvs {s : ByteArray} {src dst : TypeId} (hs : P.underlying src = some .string) (hd : P.underlying dst = some .string) {w : World} :
 (convert src dst (.string s)).run P w = .ok (.string s) w := by
 simp [convert, run_underlying hs, run_underlying hd]
theorem grown_ge (w : World) (need old : Nat) (e : TypeId) : need ≤ grownCap w need old e := by
 unfold grownCap Question.cut; simp only; omega
theorem o_s2b (ok : Ok c) {s : List UInt8} {src dst e : TypeId} (hs : P.underlying src = some .string) (hd : P.underlying dst = some (.slice e)) (he : P.underlying e = some (.int .u8)) :
 ∃ c' v, (convert src dst (.string ⟨s.toArray⟩)).run P c.w = .ok v c'.w ∧ relA c' (.osl c.h.length 0 0 s.length) v ∧ c'.h = c.h ++ [⟨.mine, e, .arr false 0 1 (s.map byteRow)⟩] ∧ Ok c' ∧ Goes c c' := by
 have run := run_bytes_of_string (P := P) c.w src dst e ⟨s.toArray⟩ hs hd he
 have okd := ok_drew ok
 have hsz : (ByteArray.mk s.toArray).size = s.length := by simp [ByteArray.size]
 generalize hcap : grownCap c.w (ByteArray.mk s.toArray).size 0 e = cap at run
 have hge : s.length ≤ cap := by rw [← hcap, ← hsz]; exact grown_ge _ _ _ _
 have hflat : Flat c.drew 1 (s.map byteRow) (s.map fun b => Value.int .u8 b.toNat) := by
  refine ⟨by simp, fun r row hr => ?_⟩
  simp only [List.getElem?_map, Option.map_eq_some_iff] at hr
  obtain ⟨b, hb, rfl⟩ := hr
  refine ⟨rfl, fun k x hk => ?_⟩
  cases k with
  | zero =>
   simp only [byteRow, List.getElem?_cons_zero, Option.some.injEq] at hk
   subst hk
   exact ⟨.int .u8 b.toNat, by simp [hb], by simp [relD]⟩
  | succ k => simp [byteRow] at hk
 have hlen : (bytesRow ⟨s.toArray⟩ cap).size = cap := by
  simp [bytesRow, hsz]; omega
 have hpre : (s.map fun b => Value.int .u8 b.toNat) <+: (bytesRow ⟨s.toArray⟩ cap).toList := by
  simp only [bytesRow, Array.toList_append, Array.toList_map]
  exact ⟨_, rfl⟩
 have := s_newarr (c := c.drew) okd (nl := false) (sz := 1) (rows := s.map byteRow) (vs := (bytesRow ⟨s.toArray⟩ cap).toList) (us := s.map fun b => Value.int .u8 b.toNat) (e := e)
  (fz := ((bytesRow ⟨s.toArray⟩ cap).size, (bytesRow ⟨s.toArray⟩ cap).size + 1)) (cap := cap) (by simp) hflat hpre (fun k hk => by simp at hk; simp only [not_and, Nat.not_lt]; omega) (by simpa using hge) (by simp [hlen])
 rw [Array.toArray_toList] at this
 refine ⟨_, _, run, ?_, rfl, this.1, Goes.trans ok.fbs goes_drew (goes_more okd _ _ _ _)⟩
 have h2 := this.2
 rw [hsz]
 rw [List.length_map] at h2
 exact h2
theorem mapM_rowByte : ∀ {rows : List (List DV)} {s : List UInt8}, rows.mapM rowByte = some s → s.length = rows.length ∧ ∀ (j : Nat) b, s[j]? = some b → ∃ n, rows[j]? = some [.int .u8 n] ∧ b = UInt8.ofNat n.toNat
 | [], s, h => by simp at h; subst h; simp
 | r :: rows, s, h => by
  simp only [List.mapM_cons, Option.bind_eq_bind, Option.bind_eq_some_iff, Option.pure_def, Option.some.injEq] at h
  obtain ⟨b, hb, l, hl, rfl⟩ := h
  obtain ⟨h1, h2⟩ := mapM_rowByte hl
  refine ⟨by simp [h1], fun j x hj => ?_⟩
  cases j with
  | zero =>
   simp at hj
   subst hj
   unfold rowByte at hb
   split at hb
   · cases hb; exact ⟨_, rfl, rfl⟩
   · cases hb
  | succ j => simpa using h2 j x (by simpa using hj)
theorem foldl_bytes : ∀ (ns : List Int) (r : ByteArray), ns.foldl (fun r n => r.push (UInt8.ofNat n.toNat)) r = ⟨r.data ++ (ns.map fun n => UInt8.ofNat n.toNat).toArray⟩
 | [], r => by simp
 | n :: ns, r => by
  simp only [List.foldl_cons]
  rw [foldl_bytes ns]
  simp [ByteArray.push]
theorem o_b2s (ok : Ok c) {x : AV} {v : Value} (h : relA c x v) {rows : List (List DV)} (hr : rowsOf c.h 1 x = some rows) {s : List UInt8} (ht : textOf rows = some s) {src dst e : TypeId}
 (hs : P.underlying src = some (.slice e)) (he : P.underlying e = some (.int .u8)) (hd : P.underlying dst = some .string) :
 (convert src dst v).run P c.w = .ok (.string ⟨s.toArray⟩) c.w := by
 unfold textOf at ht
 obtain ⟨hlen, hbytes⟩ := mapM_rowByte ht
 have hm : moreOf c.h 1 x = some rows := by
  cases x with
  | d x => cases x <;> first | exact hr | simp [rowsOf] at hr
  | _ => exact hr
 obtain ⟨us, hflat, hlen', hfirst⟩ := first_cells (P := P) ok h hm
 obtain ⟨a, l, cap, rfl⟩ : ∃ a l cap, v = .slice a l cap := by
  cases x with
  | d x =>
   cases x <;> simp only [rowsOf, reduceCtorEq] at hr
   · simp only [relA, relD] at h; exact ⟨_, _, _, h⟩
   · simp only [relA, relD] at h; obtain ⟨a, cap, h, _⟩ := h; exact ⟨_, _, _, h⟩
  | osl => simp only [relA] at h; obtain ⟨_, a, cap, _, _, _, _, _, _, h, _⟩ := h; exact ⟨_, _, _, h⟩
  | _ => simp [rowsOf] at hr
 rw [run_convert_bytes_string c.w src dst e a l cap hs he hd]
 have hl : l = rows.length := by
  have := congrArg (fun s => s.run P c.w) hlen'
  simpa [Builtin.lenOf] using this
 subst hl
 have hus : us = (s.map fun b => Value.int .u8 (b.toNat : Int)) ∨ True := .inr trivial
 have hns : ∃ ns : List Int, us = ns.map (Value.int .u8) ∧ ns.map (fun n => UInt8.ofNat n.toNat) = s := by
  have key : ∀ (n : Nat) (us : List Value) (s : List UInt8), us.length = n → s.length = n → (∀ (j : Nat) b, s[j]? = some b → ∃ m, us[j]? = some (.int .u8 m) ∧ b = UInt8.ofNat m.toNat) →
   ∃ ns : List Int, us = ns.map (Value.int .u8) ∧ ns.map (fun n => UInt8.ofNat n.toNat) = s := by
   intro n
   induction n with
   | zero => intro us s h1 h2 _; exact ⟨[], by simpa using h1, (List.eq_nil_of_length_eq_zero h2).symm⟩
   | succ n ih =>
    intro us s h1 h2 h3
    cases us with
    | nil => simp at h1
    | cons u us =>
     cases s with
     | nil => simp at h2
     | cons b s =>
      obtain ⟨m, hm, rfl⟩ := h3 0 b rfl
      simp at hm
      subst hm
      obtain ⟨ns, rfl, rfl⟩ := ih us s (by simpa using h1) (by simpa using h2) fun j b hj => by simpa using h3 (j + 1) b (by simpa using hj)
      exact ⟨m :: ns, rfl, rfl⟩
  refine key rows.length us s (by rw [hflat.1, Nat.mul_one]) hlen fun j b hj => ?_
  obtain ⟨n, hn, rfl⟩ := hbytes j b hj
  obtain ⟨_, hc⟩ := hflat.2 j _ hn
  obtain ⟨v, hv, hrel⟩ := hc 0 (.int .u8 n) rfl
  simp only [relD] at hrel
  subst hrel
  exact ⟨n, by simpa using hv, rfl⟩
 obtain ⟨ns, rfl, hs'⟩ := hns
 cases a with
 | none =>
  have : rows = [] := by
   cases x with
   | d x =>
    cases x <;> simp only [rowsOf, reduceCtorEq, Option.some.injEq] at hr
    · exact hr.symm
    · simp only [relA, relD] at h; obtain ⟨a, cap, h, _⟩ := h; cases h
   | osl i g lo hi =>
    simp only [relA] at h
    obtain ⟨hlo, a, cap', own, ty, nl, g', sz, rws, e1, ho, _, hcur⟩ := h
    simp only [rowsOf, ho] at hr
    split at hr
    · rename_i hb
      simp only [Bool.and_eq_true] at hb
      obtain ⟨_, h1⟩ := hcur (Nat.eq_of_beq_eq_true hb.1).symm
      rcases h1 with ⟨_, rfl, _⟩ | ⟨b, q, _, rfl, _⟩
      · cases hr; simp
      · cases e1
    · cases hr
   | _ => simp [rowsOf] at hr
  subst this
  simp only [List.mapM_nil, Option.pure_def, Option.some.injEq] at ht
  subst ht
  simp [Conv.bytesToString]
  rfl
 | some a =>
  have := hfirst c.w rfl
  simp only [Builtin.firstCells, Nat.mul_one] at this
  rw [run_bytesToString c.w a rows.length cap ns (by simpa using this), foldl_bytes, hs']
  have he0 : ByteArray.empty.data = #[] := rfl
  rw [he0]
  simp
theorem notIface_ne {d : TypeDesc} (h : notIface d = true) : ∀ m, d ≠ .interface m := by
 intro m e; subst e; cases h
theorem o_mki {t : TypeId} {d : TypeDesc} (hu : P.underlying t = some d) (hd : notIface d = true) {v : Value} {w : World} : (Instr.makeInterface t v).run P w = .ok (.iface t v) w := by
 simp only [Instr.makeInterface, Sem.run_bind, run_underlying hu, Result.andThen]
 cases d <;> first | rfl | cases hd
theorem o_new (ok : Ok c) {cs : List AV} {vs : List Value} (e : TypeId) (h : relL c cs vs) (hc : cs.all celly = true) :
 ∃ c', c'.w = c.w.alloc (.cells vs.toArray e) ∧ relA c' (.ptr c.h.length 0) (.pointer (some ⟨c.w.heap.size, 0, none⟩)) ∧ c'.h = c.h ++ [⟨.mine, e, .fix cs⟩] ∧ Ok c' ∧ Goes c c' := by
 refine ⟨c.more ⟨.mine, e, .fix cs⟩ vs.toArray e (0, 0), rfl, ?_, rfl, s_newfix ok e h hc, goes_more ok _ _ _ _⟩
 simp only [relA]
 exact ⟨⟨.mine, e, cs, by simp [Cx.more]⟩, c.w.heap.size, by simp [Cx.more, ← ok.len], rfl⟩
theorem o_alloc (ok : Ok c) {t : TypeId} {i : TypeInfo} {z : Value} {zs : List AV} (hi : P.info? t = some i) (hz : i.zero = some z) (hc : compCells z.cells.toList = some zs) :
 ∃ c' v, (Instr.alloc t true (.tuple #[])).run P c.w = .ok v c'.w ∧ relA c' (.ptr c.h.length 0) v ∧ c'.h = c.h ++ [⟨.mine, t, .fix zs⟩] ∧ Ok c' ∧ Goes c c' := by
 obtain ⟨h1, h2⟩ := compCells_rel (c := c) hc
 obtain ⟨c', e, r1, r2, r3, r4⟩ := o_new ok t h1 h2
 refine ⟨c', _, ?_, r1, r2, r3, r4⟩
 rw [e]
 simp [Instr.alloc, zeroValue, typeInfo, hi, hz, newVar, newRow]
theorem o_box (ok : Ok c) {t : TypeId} {x : AV} {v : Value} (h : relA c x v) (hc : (cellsOf x).all celly = true) :
 ∃ c' u, (Instr.box t v).run P c.w = .ok u c'.w ∧ relA c' (.ptr c.h.length 0) u ∧ c'.h = c.h ++ [⟨.mine, t, .fix (cellsOf x)⟩] ∧ Ok c' ∧ Goes c c' := by
 obtain ⟨c', e, r1, r2, r3, r4⟩ := o_new ok t (relL_cells h hc) hc
 refine ⟨c', _, ?_, r1, r2, r3, r4⟩
 rw [e]
 simp [Instr.box, newVar, newRow]
theorem o_cuts {s s' : List UInt8} {t : TypeId} (hu : P.underlying t = some .string) {lo hi : Bool} {xs : List AV} {ρ : Operand → Value} {ol oh : Option Operand} (hlo : ol.isSome = lo) (hhi : oh.isSome = hi)
 (h : relL c xs ((optOpd ol ++ optOpd oh).map ρ)) {a b : Int} (hb : bounds lo hi xs s.length = some (a, b)) (hc : icut s a b = some s') {w : World} :
 (Instr.sliceAt t (.string ⟨s.toArray⟩) (ol.map ρ) (oh.map ρ) none).run P w = .ok (.string ⟨s'.toArray⟩) w := by
 obtain ⟨h0, h1, h2, rfl⟩ := icut_some hc
 have hsz : (ByteArray.mk s.toArray).size = s.length := by simp [ByteArray.size]
 have hrun := o_bounds (P := P) hlo hhi h hb (isSlice := false) (n := s.length) (cap := s.length) rfl h0 h1 h2 (w := w)
 simp only [Instr.sliceAt, Instr.slice, Sem.run_bind, run_underlying hu, Result.andThen, hsz, hrun, Option.isSome_none, Bool.false_eq_true, if_false, Sem.run_pure]
 have : (ByteArray.mk s.toArray).extract a.toNat b.toNat = ⟨((s.take b.toNat).drop a.toNat).toArray⟩ := by
  apply ByteArray.ext
  rw [ByteArray.data_extract]
  simp [List.extract_eq_take_drop, List.drop_take]
 rw [this]
theorem o_cutr {x : AV} {v : Value} (h : relA c x v) {t e : TypeId} {i : TypeInfo} (hu : P.underlying t = some (.slice e)) (hi : P.info? e = some i) {lo hi' : Bool} {xs : List AV} {ρ : Operand → Value} {ol oh : Option Operand}
 (hlo : ol.isSome = lo) (hhi : oh.isSome = hi') (hx : relL c xs ((optOpd ol ++ optOpd oh).map ρ)) {w : World} :
 (∀ {a b : Int}, x = .d .nilsl → bounds lo hi' xs 0 = some (a, b) → a = 0 → b = 0 → ∃ u, (Instr.sliceAt t v (ol.map ρ) (oh.map ρ) none).run P w = .ok u w ∧ relA c (.d .nilsl) u) ∧
 (∀ {rows rows' : List (List DV)} {a b : Int}, x = .d (.sl i.size rows) → bounds lo hi' xs rows.length = some (a, b) → icut rows a b = some rows' →
  ∃ u, (Instr.sliceAt t v (ol.map ρ) (oh.map ρ) none).run P w = .ok u w ∧ relA c (.d (.sl i.size rows')) u) := by
 have run : ∀ (p : Option Addr) (n cap : Nat) (a b : Int), bounds lo hi' xs n = some (a, b) → 0 ≤ a → a ≤ b → b ≤ cap →
  (Instr.sliceAt t (.slice p n cap) (ol.map ρ) (oh.map ρ) none).run P w = .ok (.slice (if cap = a.toNat then p else p.map (·.add (a.toNat * i.size))) (b.toNat - a.toNat) (cap - a.toNat)) w := by
  intro p n cap a b hb h0 h1 h2
  have hrun := o_bounds (P := P) hlo hhi hx hb (isSlice := true) (n := n) (cap := cap) rfl h0 h1 h2 (w := w)
  simp only [Instr.sliceAt, Instr.slice, Sem.run_bind, run_underlying hu, Result.andThen, hrun, run_sizeOf w hi, Sem.run_pure, Program.cellsOf, hi, Option.map_some, Option.getD_some]
 constructor
 · intro a b e hb ea eb
   subst e ea eb
   simp only [relA, relD] at h
   subst h
   refine ⟨_, run none 0 0 0 0 hb (Int.le_refl _) (Int.le_refl _) (by simp), by simp [relA, relD]⟩
 · intro rows rows' a b e hb hcut
   subst e
   obtain ⟨h0, h1, h2, rfl⟩ := icut_some hcut
   simp only [relA, relD] at h
   obtain ⟨p, cap, rfl, hcap, hs, hr⟩ := h
   have hlen : ((rows.take b.toNat).drop a.toNat).length = b.toNat - a.toNat := by simp; omega
   refine ⟨_, run (some p) rows.length cap a b hb h0 h1 (by omega), ?_⟩
   simp only [relA, relD]
   by_cases hz : cap = a.toNat
   · refine ⟨p, cap - a.toNat, by rw [if_pos hz, hlen], by rw [hlen]; omega, .inl (List.eq_nil_of_length_eq_zero (by rw [hlen]; omega)), ?_⟩
     rw [List.eq_nil_of_length_eq_zero (l := (rows.take b.toNat).drop a.toNat) (by rw [hlen]; omega)]
     simp [relD.relRows]
   · refine ⟨p.add (a.toNat * i.size), cap - a.toNat, by rw [if_neg hz, hlen]; rfl, by rw [hlen]; omega, ?_, ?_⟩
     · rcases hs with rfl | hs
       · simp
       · right
         obtain ⟨pb, po, ps⟩ := p
         simp only at hs
         subst hs
         rw [add_plain]
     · rcases hs with rfl | hs
       · simp [relD.relRows]
       · obtain ⟨pb, po, ps⟩ := p
         simp only at hs
         subst hs
         rw [add_plain]
         rw [relRows_iff] at hr ⊢
         intro r row hrow
         simp only [List.getElem?_drop] at hrow
         have hlt : a.toNat + r < b.toNat := by
          have := (List.getElem?_eq_some_iff.1 hrow).1
          simp at this; omega
         rw [List.getElem?_take_of_lt hlt] at hrow
         have := hr _ row hrow
         rw [Nat.add_mul, ← Nat.add_assoc] at this
         exact this
end
end Go.Proofs.YtlhajccbfapieaaGreatDoor.Ab
