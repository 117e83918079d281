/- Each operation of the model against the interpreter's: all of them. -/
import Derived.Test.YtlhajccbfapieaaGreatDoorAbStep3
import Derived.Laws.LoneSync
namespace Go.Proofs.YtlhajccbfapieaaGreatDoor.Ab
open Go
set_option linter.unusedVariables false
set_option linter.unusedSimpArgs false
section
variable {P : Program} {c : Cx}
theorem in1 {xs : List AV} {v : Value} (h : relL c xs [v]) : ∃ x, xs = [x] ∧ relA c x v := by
 cases xs with
 | nil => simp [relA.relL] at h
 | cons x xs =>
  rw [relL_cons] at h
  cases xs with
  | nil => exact ⟨x, rfl, h.1⟩
  | cons y ys => obtain ⟨_, h⟩ := h; simp [relA.relL] at h
theorem in2 {xs : List AV} {v u : Value} (h : relL c xs [v, u]) : ∃ x y, xs = [x, y] ∧ relA c x v ∧ relA c y u := by
 cases xs with
 | nil => simp [relA.relL] at h
 | cons x xs =>
  rw [relL_cons] at h
  obtain ⟨y, rfl, h2⟩ := in1 h.2
  exact ⟨x, y, rfl, h.1, h2⟩
theorem in3 {xs : List AV} {v u t : Value} (h : relL c xs [v, u, t]) : ∃ x y z, xs = [x, y, z] ∧ relA c x v ∧ relA c y u ∧ relA c z t := by
 cases xs with
 | nil => simp [relA.relL] at h
 | cons x xs =>
  rw [relL_cons] at h
  obtain ⟨y, z, rfl, h2, h3⟩ := in2 h.2
  exact ⟨x, y, z, rfl, h.1, h2, h3⟩
theorem in0 {xs : List AV} (h : relL c xs []) : xs = [] := by
 cases xs with
 | nil => rfl
 | cons x xs => simp [relA.relL] at h
theorem inCons {xs : List AV} {v : Value} {vs : List Value} (h : relL c xs (v :: vs)) : ∃ x ys, xs = x :: ys ∧ relA c x v ∧ relL c ys vs := by
 cases xs with
 | nil => simp [relA.relL] at h
 | cons x xs => exact ⟨x, xs, rfl, relL_cons.1 h⟩
theorem OpRes.val {res : Result Value} {o : Option AV} {r : OR} (ok : Ok c) (hr : val c.h o = some r) (h : ∀ x, o = some x → ∃ v, res = .ok v c.w ∧ relA c x v) :
 OpRes P c (res.andThen fun v w => .ok (Next.value v) w) r := by
 obtain ⟨x, e, rfl⟩ := val_eq hr
 obtain ⟨v, rfl, hv⟩ := h x e
 exact ⟨c, .inl ⟨v, rfl, hv⟩, rfl, ok, Goes.refl c⟩
theorem OpRes.new {res : Result Value} {x : AV} {h : Heap} (hh : ∃ c' v, res = .ok v c'.w ∧ relA c' x v ∧ c'.h = h ∧ Ok c' ∧ Goes c c') :
 OpRes P c (res.andThen fun v w => .ok (Next.value v) w) (.v x h) := by
 obtain ⟨c', v, rfl, h1, h2, h3, h4⟩ := hh
 exact ⟨c', .inl ⟨v, rfl, h1⟩, h2, h3, h4⟩
variable {cfg : Cfg} {draw : Bool} {o : Oper} {act : Act} {opds : List Operand} {ρ : Operand → Value} {xs : List AV} {r : OR}
theorem op_move (ok : Ok c) {x : Operand} (ho : o.op = .move x ∨ o.op = .assign x) (hx : relL c xs [ρ x]) (hr : opSem c.h .mv xs = some r) : OpRes P c ((execOp ρ o).run P c.w) r := by
 obtain ⟨a, rfl, ha⟩ := in1 hx
 simp only [opSem] at hr
 rcases ho with ho | ho <;> (unfold execOp; simp only [ho, Sem.run_pure]; exact o_mv ok ha hr)
theorem op_pick (ok : Ok c) {x y z : Operand} (ho : o.op = .pick x y z) (hx : relL c xs [ρ x, ρ y, ρ z]) (hr : opSem c.h .pick xs = some r) : OpRes P c ((execOp ρ o).run P c.w) r := by
 obtain ⟨a, b, d, rfl, ha, hb, hd⟩ := in3 hx
 cases a <;> try (simp only [opSem, reduceCtorEq] at hr; done)
 rename_i a; cases a <;> try (simp only [opSem, reduceCtorEq] at hr; done)
 rename_i a
 simp only [opSem] at hr
 simp only [relA, relD] at ha
 unfold execOp
 simp only [ho, ha, asBool, Sem.run_bind, Sem.run_pure, Result.andThen]
 cases a
 · simp only [Bool.false_eq_true, if_false]; exact o_mv ok hd hr
 · simp only [if_true]; exact o_mv ok hb hr
theorem op_load (ok : Ok c) {t : TypeId} {x : Operand} {n : Option Nat} (ho : o.op = .load t x) (hn : loadN P t = some n) (hx : relL c xs [ρ x]) (hr : opSem c.h (.load n) xs = some r) : OpRes P c ((execOp ρ o).run P c.w) r := by
 obtain ⟨a, rfl, ha⟩ := in1 hx
 simp only [opSem] at hr
 unfold execOp
 simp only [ho, Sem.run_bind]
 refine OpRes.val ok hr fun y hy => ?_
 split at hy
 · rename_i z hz
   rw [← force_eq hy] at hz
   exact s_load ok hn ha hz
 · cases hy
theorem op_store (ok : Ok c) {t : TypeId} {x y : Operand} {n : Nat} (ho : o.op = .store t x y) (hn : (P.info? t).map (·.size) = some n) (hx : relL c xs [ρ x, ρ y]) (hr : opSem c.h (.store n) xs = some r) : OpRes P c ((execOp ρ o).run P c.w) r := by
 obtain ⟨a, b, rfl, ha, hb⟩ := in2 hx
 simp only [opSem] at hr
 split at hr
 · rename_i h' hs
   cases hr
   obtain ⟨c', h1, h2, h3, h4⟩ := s_store ok hn ha hb hs
   unfold execOp
   simp only [ho, Sem.run_bind, h1, Result.andThen, Sem.run_pure]
   exact ⟨c', .inr ⟨rfl, by simp [relA, undef, relA.relL]⟩, h2, h3, h4⟩
 · cases hr
theorem op_nilck (ok : Ok c) {x : Operand} (ho : o.op = .nilCheck x) (hx : relL c xs [ρ x]) (hr : opSem c.h .nilck xs = some r) : OpRes P c ((execOp ρ o).run P c.w) r := by
 obtain ⟨a, rfl, ha⟩ := in1 hx
 simp only [opSem] at hr
 split at hr
 · rename_i hn
   obtain ⟨y, hy, rfl⟩ := val_eq hr
   rw [force_eq hy]
   have hn : isNil c.h a = some false := by
    cases a <;> first | exact hn | (simp [isNil] at hn; done) | (rename_i d; cases d <;> exact hn)
   rw [o_nilck ok ha hn ρ o ho rfl]
   exact .value ok ha
 · cases hr
theorem op_bin (ok : Ok c) {op : BinOp} {t yt : TypeId} {x y : Operand} {q : EqK} (ho : o.op = .binOp op t x y yt) (hconst : ∀ v, ρ (.const v) = v) (hq : (op = .eql ∨ op = .neq) → compEq P t x y = some q)
 (hx : relL c xs [ρ x, ρ y]) (hr : opSem c.h (.bin op q) xs = some r) : OpRes P c ((execOp ρ o).run P c.w) r := by
 obtain ⟨a, b, rfl, ha, hb⟩ := in2 hx
 simp only [opSem] at hr
 unfold execOp
 simp only [ho]
 have hnil : ∀ z : Operand, isNilConst z = true → ρ z = .nilIface := fun z hz => by
  unfold isNilConst at hz
  split at hz
  · exact hconst _
  · cases hz
 have := OpRes.val (P := P) (res := (do eqGuard op t x y (ρ x) (ρ y); binOp op t (ρ x) (ρ y) : Sem Value).run P c.w) ok hr fun z hz => o_bin ok ha hb hq hz (hnil x) (hnil y)
 simpa only [Sem.run_bind, Sem.run_pure] using this
theorem op_un (ok : Ok c) {op : UnOp} {t : TypeId} {x : Operand} (ho : o.op = .unOp op t x) (hx : relL c xs [ρ x]) (hr : opSem c.h (.un op) xs = some r) : OpRes P c ((execOp ρ o).run P c.w) r := by
 obtain ⟨a, rfl, ha⟩ := in1 hx
 simp only [opSem] at hr
 unfold execOp
 simp only [ho, Sem.run_bind]
 exact OpRes.val ok hr fun z hz => o_un ha hz
theorem op_cvi (ok : Ok c) {src dst : TypeId} {x : Operand} {k : IntKind} (ho : o.op = .convert src dst x) (hs : (P.underlying src).isSome = true) (hd : P.underlying dst = some (.int k)) (hx : relL c xs [ρ x]) (hr : opSem c.h (.cvi k) xs = some r) :
 OpRes P c ((execOp ρ o).run P c.w) r := by
 obtain ⟨a, rfl, ha⟩ := in1 hx
 cases a <;> try (simp only [opSem, reduceCtorEq] at hr; done)
 rename_i a; cases a <;> try (simp only [opSem, reduceCtorEq] at hr; done)
 simp only [opSem, Option.some.injEq] at hr
 subst hr
 simp only [relA, relD] at ha
 unfold execOp
 simp only [ho, Sem.run_bind, ha, o_cvi hs hd, Result.andThen, Sem.run_pure]
 exact .value ok (by simp [relA, relD])
theorem op_cvs (ok : Ok c) {src dst : TypeId} {x : Operand} (ho : o.op = .convert src dst x) (hs : P.underlying src = some .string) (hd : P.underlying dst = some .string) (hx : relL c xs [ρ x]) (hr : opSem c.h .cvs xs = some r) :
 OpRes P c ((execOp ρ o).run P c.w) r := by
 obtain ⟨a, rfl, ha⟩ := in1 hx
 cases a <;> try (simp only [opSem, reduceCtorEq] at hr; done)
 rename_i a; cases a <;> try (simp only [opSem, reduceCtorEq] at hr; done)
 simp only [opSem, Option.some.injEq] at hr
 subst hr
 simp only [relA, relD] at ha
 unfold execOp
 simp only [ho, Sem.run_bind, ha, o_cvs hs hd, Result.andThen, Sem.run_pure]
 exact .value ok (by simp [relA, relD])
theorem op_cvu (ok : Ok c) {src dst t : TypeId} {i : TypeInfo} {x : Operand} (ho : o.op = .convert src dst x) (hs : P.underlying src = some (.pointer t)) (hd : P.underlying dst = some .unsafePointer) (hi : P.info? t = some i) (h0 : Nat.beq i.size 0 = false)
 (hx : relL c xs [ρ x]) (hr : opSem c.h .cvu xs = some r) : OpRes P c ((execOp ρ o).run P c.w) r := by
 obtain ⟨a, rfl, ha⟩ := in1 hx
 cases a <;> try (simp only [opSem, reduceCtorEq] at hr; done)
 rename_i j k
 simp only [opSem] at hr
 split at hr
 · rename_i own ty cs hj
   split at hr
   · rename_i hk
     have hk : k < cs.length := Nat.le_of_ble_eq_true hk
     cases hr
     have ha' := ha
     simp only [relA] at ha
     obtain ⟨_, b, hb, e⟩ := ha
     have hO := ok.obj j _ hj
     simp only [relO] at hO
     obtain ⟨b', hb', _, _, _, _, _, hc⟩ := hO
     rw [hb] at hb'
     cases hb'
     obtain ⟨_, v, hv, _⟩ := hc k cs[k] (List.getElem?_eq_getElem hk)
     have hne : i.size ≠ 0 := fun e => by rw [e] at h0; simp at h0
     have hsz : (P.info? t).map (fun i => decide (i.size = 0)) = some false := by simp [hi, hne]
     unfold execOp
     simp only [ho, Sem.run_bind]
     rw [e] at ha' ⊢
     rw [run_convert_to_unsafe hs hd hsz hv]
     simp only [Result.andThen, Sem.run_pure]
     exact .value ok ha'
   · cases hr
 · cases hr
theorem op_cvp (ok : Ok c) {src dst u : TypeId} {i : TypeInfo} {x : Operand} (ho : o.op = .convert src dst x) (hs : P.underlying src = some .unsafePointer) (hd : P.underlying dst = some (.pointer u)) (hi : P.info? u = some i) (h0 : Nat.beq i.size 0 = false)
 (hl : liesAt P P.depth u 1 0 u 1 = true) (hx : relL c xs [ρ x]) (hr : opSem c.h (.cvp u i.size) xs = some r) : OpRes P c ((execOp ρ o).run P c.w) r := by
 obtain ⟨a, rfl, ha⟩ := in1 hx
 cases a <;> try (simp only [opSem, reduceCtorEq] at hr; done)
 rename_i j k
 cases k <;> try (simp only [opSem, reduceCtorEq] at hr; done)
 simp only [opSem] at hr
 split at hr
 · rename_i own ty cs hj
   split at hr
   · rename_i hk
     simp only [Bool.and_eq_true] at hk
     cases Nat.eq_of_beq_eq_true hk.1
     have hlen := Nat.eq_of_beq_eq_true hk.2
     cases hr
     have ha' := ha
     simp only [relA] at ha
     obtain ⟨_, b, hb, e⟩ := ha
     have hO := ok.obj j _ hj
     simp only [relO] at hO
     obtain ⟨b', hb', ⟨cv, fz, hT⟩, hsz, _, _, _, hc⟩ := hO
     rw [hb] at hb'
     cases hb'
     have hne : i.size ≠ 0 := fun e => by rw [e] at h0; simp at h0
     have hcs : cv.size = i.size := by simp only [csize, hT] at hsz; omega
     have hsh : c.w.shape? b = some (u, cv.size) := by simp [World.shape?, hT]
     have hdiv : i.size / i.size = 1 := Nat.div_self (by omega)
     unfold execOp
     simp only [ho, Sem.run_bind]
     rw [e] at ha' ⊢
     have hrun : (convert src dst (.pointer (some ⟨b, 0, none⟩))).run P c.w = .ok (.pointer (some ⟨b, 0, none⟩)) c.w := by
      simp [convert, Conv.unsafePointer, Conv.seenAt, viewAt, variablesAt, sizeOf, typeInfo, run_underlying hs, run_underlying hd, hi, hne, hsh, hcs, Program.cellsOf, hdiv, hl, Result.andThen]
     rw [hrun]
     simp only [Result.andThen, Sem.run_pure]
     exact .value ok ha'
   · cases hr
 · cases hr
theorem op_s2b (ok : Ok c) {src dst e : TypeId} {x : Operand} (ho : o.op = .convert src dst x) (hs : P.underlying src = some .string) (hd : P.underlying dst = some (.slice e)) (he : P.underlying e = some (.int .u8))
 (hx : relL c xs [ρ x]) (hr : opSem c.h (.s2b e) xs = some r) : OpRes P c ((execOp ρ o).run P c.w) r := by
 obtain ⟨a, rfl, ha⟩ := in1 hx
 cases a <;> try (simp only [opSem, reduceCtorEq] at hr; done)
 rename_i a; cases a <;> try (simp only [opSem, reduceCtorEq] at hr; done)
 simp only [opSem, Option.some.injEq] at hr
 subst hr
 simp only [relA, relD] at ha
 unfold execOp
 simp only [ho, Sem.run_bind, ha]
 exact OpRes.new (o_s2b ok hs hd he)
theorem op_b2s (ok : Ok c) {src dst e : TypeId} {x : Operand} (ho : o.op = .convert src dst x) (hs : P.underlying src = some (.slice e)) (he : P.underlying e = some (.int .u8)) (hd : P.underlying dst = some .string)
 (hx : relL c xs [ρ x]) (hr : opSem c.h .b2s xs = some r) : OpRes P c ((execOp ρ o).run P c.w) r := by
 obtain ⟨a, rfl, ha⟩ := in1 hx
 simp only [opSem] at hr
 split at hr
 · rename_i rows hrows
   split at hr
   · rename_i s hs'
     cases hr
     unfold execOp
     simp only [ho, Sem.run_bind, o_b2s ok ha hrows hs' hs he hd, Result.andThen, Sem.run_pure]
     exact .value ok (by simp [relA, relD])
   · cases hr
 · cases hr
theorem op_mki (ok : Ok c) {t : TypeId} {d : TypeDesc} {x : Operand} (ho : o.op = .makeInterface t x) (hu : P.underlying t = some d) (hd : notIface d = true) (hx : relL c xs [ρ x]) (hr : opSem c.h (.mki t) xs = some r) :
 OpRes P c ((execOp ρ o).run P c.w) r := by
 obtain ⟨a, rfl, ha⟩ := in1 hx
 simp only [opSem] at hr
 obtain ⟨y, hy, rfl⟩ := val_eq hr
 simp only [Option.map_eq_some_iff] at hy
 obtain ⟨z, hz, rfl⟩ := hy
 rw [force_eq hz]
 unfold execOp
 simp only [ho, Sem.run_bind, o_mki hu hd, Result.andThen, Sem.run_pure]
 exact .value ok (by simp only [relA]; exact ⟨_, rfl, ha⟩)
theorem op_mkf (ok : Ok c) {f : Nat} {m : Mode} {first cap : Array Operand} (ho : o.op = .makeFunc (.func f) first cap) (hx : relL c xs ((first.toList ++ cap.toList).map ρ)) (hr : opSem c.h (.mkf m f first.size) xs = some r) :
 OpRes P c ((execOp ρ o).run P c.w) r := by
 simp only [opSem, Option.some.injEq] at hr
 subst hr
 unfold execOp
 simp only [ho, Instr.makeFunc, Sem.run_bind, Sem.run_pure, Result.andThen]
 refine .value ok ?_
 simp only [relA]
 refine ⟨_, _, rfl, ?_, ?_⟩
 · have := relL_take hx first.size
   simpa [List.take_append] using this
 · have := relL_drop hx first.size
   simpa [List.drop_append] using this
theorem op_mks (ok : Ok c) {t e : TypeId} {i : TypeInfo} {z : Value} {zs : List DV} {x y : Operand} (ho : o.op = .makeSlice t x y) (hu : P.underlying t = some (.slice e)) (hi : P.info? e = some i) (hz : i.zero = some z)
 (hc : compCellsD z.cells.toList = some zs) (hs : z.cells.size = i.size) (h0 : 0 < i.size) (hb0 : 0 < i.bytes) (hx : relL c xs [ρ x, ρ y]) (hr : opSem c.h (.mks e i.size i.bytes zs) xs = some r) :
 OpRes P c ((execOp ρ o).run P c.w) r := by
 obtain ⟨a, b, rfl, ha, hb⟩ := in2 hx
 cases a <;> try (simp only [opSem, reduceCtorEq] at hr; done)
 rename_i a; cases a <;> try (simp only [opSem, reduceCtorEq] at hr; done)
 rename_i k n; cases n <;> try (simp only [opSem, reduceCtorEq] at hr; done)
 rename_i n
 cases b <;> try (simp only [opSem, reduceCtorEq] at hr; done)
 rename_i b; cases b <;> try (simp only [opSem, reduceCtorEq] at hr; done)
 rename_i k' m
 simp only [opSem] at hr
 split at hr
 · rename_i h1 h2
   cases hr
   simp only [relA, relD] at ha hb
   rw [ieq_iff] at h1
   unfold execOp
   simp only [ho, Sem.run_bind, ha, hb]
   rw [← h1]
   exact OpRes.new (o_mks ok hu hi hz hc hs h0 hb0 h2)
 · cases hr
theorem op_alloc (ok : Ok c) {t : TypeId} {i : TypeInfo} {z : Value} {zs : List AV} (ho : o.op = .alloc t) (hi : P.info? t = some i) (hz : i.zero = some z) (hc : compCells z.cells.toList = some zs)
 (hx : relL c xs []) (hr : opSem c.h (.new t zs) xs = some r) : OpRes P c ((execOp ρ o).run P c.w) r := by
 cases in0 hx
 simp only [opSem, Option.some.injEq] at hr
 subst hr
 unfold execOp
 simp only [ho, Sem.run_bind]
 exact OpRes.new (o_alloc ok hi hz hc)
theorem op_box (ok : Ok c) {t : TypeId} {x : Operand} (ho : o.op = .box t x) (hx : relL c xs [ρ x]) (hr : opSem c.h (.box t) xs = some r) : OpRes P c ((execOp ρ o).run P c.w) r := by
 obtain ⟨a, rfl, ha⟩ := in1 hx
 simp only [opSem] at hr
 split at hr
 · rename_i hc
   cases hr
   unfold execOp
   simp only [ho, Sem.run_bind]
   exact OpRes.new (o_box ok ha hc)
 · cases hr
theorem op_cuts (ok : Ok c) {t : TypeId} {x : Operand} {ol oh : Option Operand} (ho : o.op = .slice t x ol oh none) (hu : P.underlying t = some .string) (hx : relL c xs ((x :: (optOpd ol ++ optOpd oh)).map ρ))
 (hr : opSem c.h (.cuts ol.isSome oh.isSome) xs = some r) : OpRes P c ((execOp ρ o).run P c.w) r := by
 obtain ⟨a, ys, rfl, ha, hys⟩ := inCons hx
 cases a <;> try (simp only [opSem, reduceCtorEq] at hr; done)
 rename_i a; cases a <;> try (simp only [opSem, reduceCtorEq] at hr; done)
 simp only [opSem] at hr
 split at hr
 · rename_i lo hi hb
   split at hr
   · rename_i s' hs
     cases hr
     simp only [relA, relD] at ha
     unfold execOp
     simp only [ho, Sem.run_bind, ha, Option.map_none, o_cuts hu rfl rfl hys hb hs, Result.andThen, Sem.run_pure]
     exact .value ok (by simp [relA, relD])
   · cases hr
 · cases hr
theorem run_cut {t e : TypeId} {i : TypeInfo} (hu : P.underlying t = some (.slice e)) (hi : P.info? e = some i) {ol oh : Option Operand} {ys : List AV} (hys : relL c ys ((optOpd ol ++ optOpd oh).map ρ)) {w : World} (p : Option Addr) (n cap : Nat) (a b : Int)
 (hb : bounds ol.isSome oh.isSome ys n = some (a, b)) (h0 : 0 ≤ a) (h1 : a ≤ b) (h2 : b ≤ cap) :
 (Instr.sliceAt t (.slice p n cap) (ol.map ρ) (oh.map ρ) none).run P w = .ok (.slice (if cap = a.toNat then p else p.map (·.add (a.toNat * i.size))) (b.toNat - a.toNat) (cap - a.toNat)) w := by
 have hrun := o_bounds (P := P) rfl rfl hys hb (isSlice := true) (n := n) (cap := cap) rfl h0 h1 h2 (w := w)
 simp only [Instr.sliceAt, Instr.slice, Sem.run_bind, run_underlying hu, Result.andThen, hrun, run_sizeOf w hi, Sem.run_pure, Program.cellsOf, hi, Option.map_some, Option.getD_some]
theorem op_cutr (ok : Ok c) {t e : TypeId} {i : TypeInfo} {x : Operand} {ol oh : Option Operand} (ho : o.op = .slice t x ol oh none) (hu : P.underlying t = some (.slice e)) (hi : P.info? e = some i)
 (hx : relL c xs ((x :: (optOpd ol ++ optOpd oh)).map ρ)) (hr : opSem c.h (.cutr i.size ol.isSome oh.isSome) xs = some r) : OpRes P c ((execOp ρ o).run P c.w) r := by
 obtain ⟨a, ys, rfl, ha, hys⟩ := inCons hx
 obtain ⟨h1, h2⟩ := o_cutr (P := P) ha hu hi rfl rfl hys (w := c.w)
 cases a <;> try (simp only [opSem, reduceCtorEq] at hr; done)
 · rename_i a; cases a <;> try (simp only [opSem, reduceCtorEq] at hr; done)
   · simp only [opSem] at hr
     split at hr
     · rename_i lo hi' hb
       split at hr
       · rename_i h0
         cases hr
         simp only [Bool.and_eq_true, ieq_iff] at h0
         obtain ⟨u, e1, e2⟩ := h1 rfl hb h0.1 h0.2
         unfold execOp
         simp only [ho, Sem.run_bind, Option.map_none, e1, Result.andThen, Sem.run_pure]
         exact .value ok e2
       · cases hr
     · cases hr
   · simp only [opSem] at hr
     split at hr
     · rename_i lo hi' hsz hb
       split at hr
       · rename_i rows' hcut
         cases hr
         cases Nat.eq_of_beq_eq_true hsz
         obtain ⟨u, e1, e2⟩ := h2 rfl hb hcut
         unfold execOp
         simp only [ho, Sem.run_bind, Option.map_none, e1, Result.andThen, Sem.run_pure]
         exact .value ok e2
       · cases hr
     · cases hr
 · clear h1 h2
   rename_i j g l0 h0
   simp only [opSem] at hr
   split at hr
   · rename_i own ty nl g' sz' rows hj
     split at hr
     · rename_i A B hg hb
       split at hr
       · rename_i hc
         cases hr
         simp only [Bool.and_eq_true] at hg
         cases Nat.eq_of_beq_eq_true hg.1
         cases Nat.eq_of_beq_eq_true hg.2
         have hA : 0 ≤ A ∧ A ≤ B ∧ B ≤ (h0 : Int) - l0 ∧ (A = 0 ∨ A < (h0 : Int) - l0) := by
          simp only [Bool.and_eq_true, Bool.or_eq_true] at hc
          unfold ile ieq ilt at hc
          simp only [decide_eq_true_eq, beq_iff_eq] at hc
          exact ⟨hc.1.1.1, hc.1.1.2, hc.1.2, hc.2⟩
         obtain ⟨a0, a1, a2, a3⟩ := hA
         simp only [relA] at ha
         obtain ⟨hle, p, cap, own', ty', nl', g'', sz'', rows'', hv, hj', hgg, hcur⟩ := ha
         rw [hj] at hj'
         cases hj'
         obtain ⟨hhi, H⟩ := hcur rfl
         have hb' : bounds ol.isSome oh.isSome ys ((h0 - l0 : Nat) : Int) = some (A, B) := by
          rw [show ((h0 - l0 : Nat) : Int) = (h0 : Int) - l0 by omega]; exact hb
         rcases H with ⟨rfl, rfl, rfl, rfl, hbs⟩ | ⟨b, q, hbs, rfl, hcap, hcs⟩
         · simp only [List.length_nil, Nat.le_zero] at hhi
           subst hhi
           have hl0 : l0 = 0 := by omega
           subst hl0
           have hA0 : A = 0 := by omega
           have hB0 : B = 0 := by omega
           subst hA0 hB0
           have hrun := run_cut (P := P) hu hi hys (w := c.w) none 0 0 0 0 hb' (Int.le_refl _) (Int.le_refl _) (by simp)
           unfold execOp
           simp only [ho, Sem.run_bind, Option.map_none, hv, Nat.sub_self, hrun, Result.andThen, Sem.run_pure]
           refine .value ok ?_
           simp only [relA]
           exact ⟨Nat.le_refl _, none, 0, own, ty, true, g, i.size, [], by simp, hj, Nat.le_refl _, fun _ => ⟨by simp, .inl ⟨rfl, rfl, rfl, rfl, hbs⟩⟩⟩
         · have hrun := run_cut (P := P) hu hi hys (w := c.w) (some ⟨b, q + l0 * i.size, none⟩) (h0 - l0) cap A B hb' a0 a1 (by omega)
           unfold execOp
           simp only [ho, Sem.run_bind, Option.map_none, hv, hrun, Result.andThen, Sem.run_pure]
           refine .value ok ?_
           simp only [relA]
           refine ⟨by omega, (if cap = A.toNat then some ⟨b, q + l0 * i.size, none⟩ else (some (⟨b, q + l0 * i.size, none⟩ : Addr)).map (·.add (A.toNat * i.size))), cap - A.toNat, own, ty, nl, g, i.size, rows, ?_, hj, Nat.le_refl _, fun _ => ⟨by omega, .inr ⟨b, q, hbs, ?_, by omega, ?_⟩⟩⟩
           · rw [show l0 + B.toNat - (l0 + A.toNat) = B.toNat - A.toNat by omega]
           · by_cases hz : cap = A.toNat
             · rw [if_pos hz]
               have : A.toNat = 0 := by omega
               rw [this, Nat.add_zero]
             · rw [if_neg hz, Option.map_some, add_plain, Nat.add_mul, Nat.add_assoc]
           · rw [show l0 + A.toNat + (cap - A.toNat) = l0 + cap by omega]
             exact hcs
       · cases hr
     · cases hr
   · cases hr
theorem op_fad (ok : Ok c) {s : TypeId} {fs : Array Field} {k : Nat} {f : Field} {i : TypeInfo} {x : Operand} (ho : o.op = .fieldAddr s x k) (hu : P.underlying s = some (.struct fs)) (hf : fs[k]? = some f) (hi : P.info? f.type = some i)
 (h0 : i.size ≠ 0) (hx : relL c xs [ρ x]) (hr : opSem c.h (.fad f.offset) xs = some r) : OpRes P c ((execOp ρ o).run P c.w) r := by
 obtain ⟨a, rfl, ha⟩ := in1 hx
 have key : ∀ {y}, ((∃ i m, a = .ptr i m ∧ y = .ptr i (m + f.offset)) ∨ (∃ row m, a = .rpt row m ∧ y = .rpt row (m + f.offset)) ∨ (∃ i g r m, a = .ept i g r m ∧ y = .ept i g r (m + f.offset))) → r = .v y c.h → OpRes P c ((execOp ρ o).run P c.w) r := by
  intro y hm e
  subst e
  obtain ⟨u, e1, e2⟩ := o_fad (P := P) ha hu hf hi h0 hm (w := c.w)
  unfold execOp
  simp only [ho, Sem.run_bind, e1, Result.andThen, Sem.run_pure]
  exact .value ok e2
 cases a <;> try (simp only [opSem, reduceCtorEq] at hr; done)
 all_goals (simp only [opSem, Option.some.injEq] at hr)
 · exact key (.inl ⟨_, _, rfl, rfl⟩) hr.symm
 · exact key (.inr (.inr ⟨_, _, _, _, rfl, rfl⟩)) hr.symm
 · exact key (.inr (.inl ⟨_, _, rfl, rfl⟩)) hr.symm
theorem op_fld (ok : Ok c) {t : TypeId} {fs : Array Field} {k : Nat} {f : Field} {n : Option Nat} {x : Operand} (ho : o.op = .field t x k) (hu : P.underlying t = some (.struct fs)) (hf : fs[k]? = some f) (hn : loadN P f.type = some n)
 (hx : relL c xs [ρ x]) (hr : opSem c.h (.fld f.offset n) xs = some r) : OpRes P c ((execOp ρ o).run P c.w) r := by
 obtain ⟨a, rfl, ha⟩ := in1 hx
 cases a <;> try (simp only [opSem, reduceCtorEq] at hr; done)
 simp only [opSem] at hr
 unfold execOp
 simp only [ho, Sem.run_bind]
 simp only [relA] at ha
 obtain ⟨vs, e, ha⟩ := ha
 rw [e]
 refine OpRes.val ok hr fun y hy => ?_
 split at hy
 · rename_i z hz
   rw [← force_eq hy] at hz
   exact o_fld ha hu hf hn hz
 · cases hy
theorem op_iad (ok : Ok c) {t e : TypeId} {ie : TypeInfo} {x y : Operand} (ho : o.op = .indexAddr t x y) (hu : P.underlying t = some (.slice e)) (hi : P.info? e = some ie) (hx : relL c xs [ρ x, ρ y]) (hr : opSem c.h (.iad ie.size) xs = some r) :
 OpRes P c ((execOp ρ o).run P c.w) r := by
 obtain ⟨a, b, rfl, ha, hb⟩ := in2 hx
 have key : ∀ {k : IntKind} {n : Int} {z : AV}, b = .d (.int k n) → ((∃ rows row, a = .d (.sl ie.size rows) ∧ iget rows n = some row ∧ z = .rpt row 0) ∨
  (∃ i g lo hi own ty nl rows row, a = .osl i g lo hi ∧ c.h[i]? = some ⟨own, ty, .arr nl g ie.size rows⟩ ∧ iget ((rows.take hi).drop lo) n = some row ∧ z = .ept i g (lo + n.toNat) 0)) → r = .v z c.h → OpRes P c ((execOp ρ o).run P c.w) r := by
  intro k n z eb hm e
  subst e eb
  simp only [relA, relD] at hb
  obtain ⟨u, e1, e2⟩ := o_iad (P := P) ok ha hu hi hm (k := k) (w := c.w)
  unfold execOp
  simp only [ho, Sem.run_bind, hb, e1, Result.andThen, Sem.run_pure]
  exact .value ok e2
 cases a <;> try (simp only [opSem, reduceCtorEq] at hr; done)
 · rename_i a; cases a <;> try (simp only [opSem, reduceCtorEq] at hr; done)
   cases b <;> try (simp only [opSem, reduceCtorEq] at hr; done)
   rename_i b; cases b <;> try (simp only [opSem, reduceCtorEq] at hr; done)
   simp only [opSem] at hr
   split at hr
   · rename_i row h1 h2
     cases hr
     cases Nat.eq_of_beq_eq_true h1
     exact key rfl (.inl ⟨_, _, rfl, h2, rfl⟩) rfl
   · cases hr
 · cases b <;> try (simp only [opSem, reduceCtorEq] at hr; done)
   rename_i b; cases b <;> try (simp only [opSem, reduceCtorEq] at hr; done)
   simp only [opSem] at hr
   split at hr
   · rename_i own ty nl g' sz' rows ho'
     split at hr
     · rename_i row h1 h2
       cases hr
       simp only [Bool.and_eq_true] at h1
       cases Nat.eq_of_beq_eq_true h1.1
       cases Nat.eq_of_beq_eq_true h1.2
       exact key rfl (.inr ⟨_, _, _, _, _, _, _, _, _, rfl, ho', h2, rfl⟩) rfl
     · cases hr
   · cases hr
theorem op_iadA (ok : Ok c) {t e : TypeId} {len : Nat} {ie : TypeInfo} {x y : Operand} (ho : o.op = .indexAddr t x y) (hu : P.underlying t = some (.array len e)) (hi : P.info? e = some ie) (hx : relL c xs [ρ x, ρ y])
 (hr : opSem c.h (.iadA len ie.size) xs = some r) : OpRes P c ((execOp ρ o).run P c.w) r := by
 obtain ⟨a, b, rfl, ha, hb⟩ := in2 hx
 have key : ∀ {k : IntKind} {n : Int} {z : AV}, b = .d (.int k n) → (ile 0 n && ilt n len) = true →
  ((∃ i m, a = .ptr i m ∧ z = .ptr i (m + n.toNat * ie.size)) ∨ (∃ row m, a = .rpt row m ∧ z = .rpt row (m + n.toNat * ie.size)) ∨ (∃ i g r m, a = .ept i g r m ∧ z = .ept i g r (m + n.toNat * ie.size))) → r = .v z c.h → OpRes P c ((execOp ρ o).run P c.w) r := by
  intro k n z eb hin hm e
  subst e eb
  simp only [relA, relD] at hb
  simp only [Bool.and_eq_true, ile_iff, ilt_iff] at hin
  obtain ⟨u, e1, e2⟩ := o_iadA (P := P) ha hu hi hin.1 hin.2 hm (k := k) (w := c.w)
  unfold execOp
  simp only [ho, Sem.run_bind, hb, e1, Result.andThen, Sem.run_pure]
  exact .value ok e2
 cases a <;> try (simp only [opSem, reduceCtorEq] at hr; done)
 all_goals (cases b <;> try (simp only [opSem, reduceCtorEq] at hr; done))
 all_goals (rename_i b; cases b <;> try (simp only [opSem, reduceCtorEq] at hr; done))
 all_goals (simp only [opSem] at hr; split at hr <;> first | (cases hr; done) | skip)
 · rename_i h1; cases hr; exact key rfl h1 (.inl ⟨_, _, rfl, rfl⟩) rfl
 · rename_i h1; cases hr; exact key rfl h1 (.inr (.inr ⟨_, _, _, _, rfl, rfl⟩)) rfl
 · rename_i h1; cases hr; exact key rfl h1 (.inr (.inl ⟨_, _, rfl, rfl⟩)) rfl
theorem op_idxs (ok : Ok c) {t : TypeId} {x y : Operand} (ho : o.op = .index t x y) (hu : P.underlying t = some .string) (hx : relL c xs [ρ x, ρ y]) (hr : opSem c.h .idxs xs = some r) : OpRes P c ((execOp ρ o).run P c.w) r := by
 obtain ⟨a, b, rfl, ha, hb⟩ := in2 hx
 cases a <;> try (simp only [opSem, reduceCtorEq] at hr; done)
 rename_i a; cases a <;> try (simp only [opSem, reduceCtorEq] at hr; done)
 cases b <;> try (simp only [opSem, reduceCtorEq] at hr; done)
 rename_i b; cases b <;> try (simp only [opSem, reduceCtorEq] at hr; done)
 simp only [opSem] at hr
 split at hr
 · rename_i z hz
   cases hr
   simp only [relA, relD] at ha hb
   unfold execOp
   simp only [ho, Sem.run_bind, ha, hb, o_idxs hu hz, Result.andThen, Sem.run_pure]
   exact .value ok (by simp [relA, relD])
 · cases hr
theorem op_idxA (ok : Ok c) {t e : TypeId} {len : Nat} {ie : TypeInfo} {n : Option Nat} {x y : Operand} (ho : o.op = .index t x y) (hu : P.underlying t = some (.array len e)) (hi : P.info? e = some ie) (hn : loadN P e = some n)
 (hx : relL c xs [ρ x, ρ y]) (hr : opSem c.h (.idxA len ie.size n) xs = some r) : OpRes P c ((execOp ρ o).run P c.w) r := by
 obtain ⟨a, b, rfl, ha, hb⟩ := in2 hx
 cases a <;> try (simp only [opSem, reduceCtorEq] at hr; done)
 cases b <;> try (simp only [opSem, reduceCtorEq] at hr; done)
 rename_i b; cases b <;> try (simp only [opSem, reduceCtorEq] at hr; done)
 simp only [opSem] at hr
 split at hr
 · rename_i hin
   simp only [Bool.and_eq_true, ile_iff, ilt_iff] at hin
   simp only [relA, relD] at ha hb
   obtain ⟨vs, e, ha⟩ := ha
   unfold execOp
   simp only [ho, Sem.run_bind, e, hb]
   refine OpRes.val ok hr fun y hy => ?_
   split at hy
   · rename_i z hz
     rw [← force_eq hy] at hz
     exact o_idxA ha hu hi hn hin.1 hin.2 hz
   · cases hy
 · cases hr
theorem op_ext (ok : Ok c) {x : Operand} {k : Nat} (ho : o.op = .extract x k) (hx : relL c xs [ρ x]) (hr : opSem c.h (.ext k) xs = some r) : OpRes P c ((execOp ρ o).run P c.w) r := by
 obtain ⟨a, rfl, ha⟩ := in1 hx
 cases a <;> try (simp only [opSem, reduceCtorEq] at hr; done)
 simp only [opSem] at hr
 unfold execOp
 simp only [ho, Sem.run_bind]
 refine OpRes.val ok hr fun y hy => ?_
 split at hy
 · rename_i z hz
   rw [← force_eq hy] at hz
   exact o_ext ha hz
 · cases hy
theorem op_tas (ok : Ok c) {x : Operand} {xT t : TypeId} {okb : Bool} {d : TypeDesc} {i : TypeInfo} {z : Value} {za : AV} (ho : o.op = .typeAssert x xT t okb) (hu : P.underlying t = some d) (hd : notIface d = true) (hi : P.info? t = some i) (hz : i.zero = some z)
 (hc : compZero z = some za) (hx : relL c xs [ρ x]) (hr : opSem c.h (.tas t okb za) xs = some r) : OpRes P c ((execOp ρ o).run P c.w) r := by
 obtain ⟨a, rfl, ha⟩ := in1 hx
 obtain ⟨h1, h2, h3⟩ := o_tas (P := P) ha hu hd hi hz hc (xT := xT) (w := c.w)
 have key : ∀ {y}, (∃ u, (Instr.typeAssert (ρ x) xT t okb).run P c.w = .ok u c.w ∧ relA c y u) → r = .v y c.h → OpRes P c ((execOp ρ o).run P c.w) r := by
  intro y ⟨u, e1, e2⟩ e
  subst e
  unfold execOp
  simp only [ho, Sem.run_bind, e1, Result.andThen, Sem.run_pure]
  exact .value ok e2
 cases a <;> try (simp only [opSem, reduceCtorEq] at hr; done)
 · rename_i a; cases a <;> try (simp only [opSem, reduceCtorEq] at hr; done)
   cases okb
   · simp only [opSem, reduceCtorEq] at hr
   · simp only [opSem, Option.some.injEq] at hr
     exact key (h3 (.inl rfl)) hr.symm
 · rename_i t' u
   simp only [opSem] at hr
   split at hr
   · rename_i hb
     cases Nat.eq_of_beq_eq_true hb
     simp only [Option.map_eq_some_iff] at hr
     obtain ⟨y, hy, e⟩ := hr
     rw [force_eq hy] at e
     exact key (h2 u rfl) e.symm
   · rename_i hb
     cases Nat.eq_of_beq_eq_true hb
     obtain ⟨y, hy, rfl⟩ := val_eq hr
     have e := force_eq hy
     subst e
     exact key (h1 _ rfl) rfl
   · rename_i hb
     simp only [Option.some.injEq] at hr
     exact key (h3 (.inr ⟨t', u, rfl, fun e => by subst e; simp at hb⟩)) hr.symm
   · cases hr
end
end Go.Proofs.YtlhajccbfapieaaGreatDoor.Ab
