/- Each operation of the model against the interpreter's: what is built, calls, and all of them. -/
import Derived.Test.YtlhajccbfapieaaGreatDoorAbCut
import Derived.Lib.AppendZeros
namespace Go.Proofs.YtlhajccbfapieaaGreatDoor.Ab
open Go
set_option linter.unusedVariables false
set_option linter.unusedSimpArgs false
section
variable {P : Program} {c : Cx}
variable {cfg : Cfg} {draw : Bool} {o : Oper} {act : Act} {opds : List Operand} {ρ : Operand → Value} {xs : List AV} {r : OR}
theorem op_build (ok : Ok c) {t : TypeId} {fs : Array Field} {i : TypeInfo} {z : Value} {zs : List AV} {parts : Array (Nat × Operand)} {ps : List (Nat × Nat)} (ho : o.op = .build t parts) (hu : P.underlying t = some (.struct fs)) (hi : P.info? t = some i)
 (hz : i.zero = some z) (hall : fs.toList.all (fun f => (P.info? f.type).isSome) = true) (hp : partsOf P fs parts.toList = some (ps, opds)) (hc : compCells z.cells.toList = some zs)
 (hx : relL c xs (opds.map ρ)) (hr : opSem c.h (.build zs ps) xs = some r) : OpRes P c ((execOp ρ o).run P c.w) r := by
 simp only [opSem] at hr
 split at hr
 · rename_i cs hf
   cases hr
   obtain ⟨cv, e1, e2⟩ := o_build hu hi hz hall hc hp hx hf (w := c.w)
   unfold execOp
   simp only [ho, Sem.run_bind]
   have : (parts.map fun (i, x) => (i, ρ x)) = (parts.toList.map fun (i, x) => (i, ρ x)).toArray := by rw [← Array.toList_map]
   rw [this, e1]
   simp only [Result.andThen, Sem.run_pure]
   exact .value ok (by simp only [relA]; exact ⟨_, rfl, e2⟩)
 · cases hr
theorem op_buildA (ok : Ok c) {t e : TypeId} {n : Nat} {i ie : TypeInfo} {z : Value} {zs : List AV} {parts : Array (Nat × Operand)} (ho : o.op = .build t parts) (hu : P.underlying t = some (.array n e)) (hi : P.info? t = some i)
 (hz : i.zero = some z) (he : P.info? e = some ie) (hc : compCells z.cells.toList = some zs)
 (hx : relL c xs ((parts.toList.map (·.2)).map ρ)) (hr : opSem c.h (.build zs (parts.toList.map fun p => (p.1 * ie.size, ie.size))) xs = some r) : OpRes P c ((execOp ρ o).run P c.w) r := by
 simp only [opSem] at hr
 split at hr
 · rename_i cs hf
   cases hr
   obtain ⟨cv, e1, e2⟩ := o_buildA hu hi hz he hc hx hf (w := c.w)
   unfold execOp
   simp only [ho, Sem.run_bind]
   have : (parts.map fun (i, x) => (i, ρ x)) = (parts.toList.map fun (i, x) => (i, ρ x)).toArray := by rw [← Array.toList_map]
   rw [this, e1]
   simp only [Result.andThen, Sem.run_pure]
   exact .value ok (by simp only [relA]; exact ⟨_, rfl, e2⟩)
 · cases hr
theorem op_bsl (ok : Ok c) {t e : TypeId} {n : Nat} {i : TypeInfo} {z : Value} {zs : List DV} {parts : Array (Nat × Operand)} (ho : o.op = .buildSlice t n parts) (hu : P.underlying t = some (.slice e)) (hi : P.info? e = some i)
 (hz : i.zero = some z) (hc : compCellsD z.cells.toList = some zs) (hs : z.cells.size = i.size) (h0 : 0 < i.size) (hn : n * i.size ≤ 16777216)
 (hx : relL c xs ((parts.toList.map (·.2)).map ρ)) (hr : opSem c.h (.bsl e i.size zs n (parts.toList.map (·.1))) xs = some r) : OpRes P c ((execOp ρ o).run P c.w) r := by
 simp only [opSem] at hr
 split at hr
 · rename_i rows hf
   cases hr
   unfold execOp
   simp only [ho, Sem.run_bind]
   have : (parts.map fun (i, x) => (i, ρ x)) = (parts.toList.map fun (i, x) => (i, ρ x)).toArray := by rw [← Array.toList_map]
   rw [this]
   exact OpRes.new (o_bsl ok hu hi hz hc hs h0 hn hx hf)
 · cases hr
theorem OpRes.before {res : Result Next} {ct : Cx} (ok : Ok c) (hw : ct.w = c.w) (G : Goes c ct) {x : AV} {h : Heap} (hr : OpRes P ct res (.v x h)) : OpRes P c res (.v x h) := by
 obtain ⟨c', h1, h2, h3, h4⟩ := hr
 exact ⟨c', h1, h2, h3, Goes.trans ok.fbs G h4⟩
theorem op_bslT (ok : Ok c) {t e : TypeId} {n : Nat} {i : TypeInfo} {z : Value} {zs : List DV} {parts : Array (Nat × Operand)} (ho : o.op = .buildSlice t n parts) (hu : P.underlying t = some (.slice e)) (hi : P.info? e = some i)
 (hz : i.zero = some z) (hc : compCellsD z.cells.toList = some zs) (hs : z.cells.size = i.size) (h0 : 0 < i.size) (hn : n * i.size ≤ 16777216)
 (hx : relL c xs ((parts.toList.map (·.2)).map ρ)) (hr : opSem c.h (.bslT e i.size zs n (parts.toList.map (·.1))) xs = some r) : OpRes P c ((execOp ρ o).run P c.w) r := by
 simp only [opSem] at hr
 split at hr
 · rename_i ys l hd
   obtain ⟨ct, hw, hh, okt, G, hxt⟩ := tell_ctx ok hx hd
   rw [← hh] at hr
   split at hr
   · rename_i rows hf
     cases hr
     have := op_bsl (c := ct) (ρ := ρ) okt ho hu hi hz hc hs h0 hn hxt (r := .v (.osl ct.h.length 0 0 n) (ct.h ++ [⟨.mine, e, .arr false 0 i.size rows⟩])) (by simp only [opSem, hf])
     rw [hw] at this
     exact OpRes.before ok hw G this
   · cases hr
 · cases hr
theorem op_storeT (ok : Ok c) {t : TypeId} {x y : Operand} {n : Nat} (ho : o.op = .store t x y) (hn : (P.info? t).map (·.size) = some n) (hx : relL c xs [ρ x, ρ y]) (hr : opSem c.h (.storeT n) xs = some r) :
 OpRes P c ((execOp ρ o).run P c.w) r := by
 obtain ⟨a, b, rfl, ha, hb⟩ := in2 hx
 simp only [opSem] at hr
 split at hr
 · rename_i i g rr cc
   split at hr
   · rename_i b' l hd
     have hd' : deep.deepL c.h [.ept i g rr cc, b] = some ([.ept i g rr cc, b'], l) := by simp [deep.deepL, deep, hd]
     obtain ⟨ct, hw, hh, okt, G, hxt⟩ := tell_ctx ok hx hd'
     rw [← hh] at hr
     split at hr
     · rename_i h' hst
       cases hr
       have := op_store (c := ct) (ρ := ρ) okt ho hn hxt (r := .v (.tup []) h') (by simp only [opSem, hst])
       rw [hw] at this
       exact OpRes.before ok hw G this
     · cases hr
   · cases hr
 · exact op_store ok ho hn hx (by simp only [opSem]; exact hr)
theorem blt_lt {a b : Nat} (h : Nat.blt a b = true) : a < b := Nat.le_of_ble_eq_true h
theorem fn_cases {a : AV} {ys : List AV} {p : Bool} (hr : opSem c.h (.call p) (a :: ys) = some r) : (∃ m f first cap, a = .fn m f first cap ∧ f < 1048576 ∧ r = .call p m f (first ++ ys ++ cap)) ∨
 ∃ m num i, a = .yld m num i ∧ r = .call p m (1048576 + num) (.yld m num i :: ys) := by
 cases a <;> try (simp only [opSem, reduceCtorEq] at hr; done)
 · simp only [opSem] at hr
   split at hr
   · rename_i h1; cases hr; exact .inl ⟨_, _, _, _, rfl, blt_lt h1, rfl⟩
   · cases hr
 · simp only [opSem, Option.some.injEq] at hr
   exact .inr ⟨_, _, _, rfl, hr.symm⟩
theorem fn_call {h : Heap} {a : AV} {ys : List AV} {p : Bool} (hr : opSem h (.call p) (a :: ys) = some r) : ∃ m f args, r = .call p m f args := by
 rcases fn_cases (c := ⟨default, fun _ => False, h, []⟩) hr with ⟨m, f, first, cap, _, _, e⟩ | ⟨m, num, i, _, e⟩
 · exact ⟨_, _, _, e⟩
 · exact ⟨_, _, _, e⟩
theorem call_heap {h k : Heap} {a : AV} {ys : List AV} {p : Bool} (hr : opSem h (.call p) (a :: ys) = some r) : opSem k (.call p) (a :: ys) = some r := by
 cases a <;> try (simp only [opSem, reduceCtorEq] at hr; done)
 · simpa only [opSem] using hr
 · simpa only [opSem] using hr
theorem fn_casesD {a : AV} {ys : List AV} (hr : opSem c.h .dfr (a :: ys) = some r) : ∃ m f first cap, a = .fn m f first cap ∧ f < 1048576 ∧ r = .dfr m f (first ++ ys ++ cap) := by
 cases a <;> try (simp only [opSem, reduceCtorEq] at hr; done)
 simp only [opSem] at hr
 split at hr
 · rename_i h1; cases hr; exact ⟨_, _, _, _, rfl, blt_lt h1, rfl⟩
 · cases hr
theorem op_call (ok : Ok c) {cl : Call} {f : Operand} {p : Bool} (ho : o.op = .call cl) (hcl : cl.callee = .value f) (hx : relL c xs ((f :: cl.args.toList).map ρ)) (hr : opSem c.h (.call p) xs = some r) :
 OpRes P c ((execOp ρ o).run P c.w) r := by
 obtain ⟨a, ys, rfl, ha, hys⟩ := inCons hx
 rcases fn_cases hr with ⟨m, g, first, cap, rfl, hlt, rfl⟩ | ⟨m, num, i, rfl, rfl⟩
 · simp only [relA] at ha
   obtain ⟨vs, us, e, h1, h2⟩ := ha
   refine .inl ⟨hlt, vs ++ cl.args.map ρ ++ us, ?_, ?_⟩
   · unfold execOp
     simp only [ho, resolve, hcl, e, Deferred.ofValue, Sem.run_bind, Sem.run_pure, Result.andThen, invoke]
   · simp only [Array.toList_append, Array.toList_map]
     exact relL_append (relL_append h1 hys) h2
 · have ha' := ha
   simp only [relA] at ha'
   obtain ⟨_, _, _, _, b, _, _, e⟩ := ha'
   refine .inr ⟨Nat.le_add_right _ _, b, cl.args.toList.map ρ, ?_, ?_⟩
   · unfold execOp
     simp only [ho, resolve, hcl, e, Deferred.ofValue, Sem.run_bind, Sem.run_pure, Result.andThen, invoke]
     congr 2
     apply Array.ext'
     simp
   · rw [e] at ha
     exact relL_cons.2 ⟨ha, hys⟩
theorem op_dfr (ok : Ok c) {cl : Call} {f : Operand} (ho : o.op = .defer cl) (hcl : cl.callee = .value f) (hx : relL c xs ((f :: cl.args.toList).map ρ)) (hr : opSem c.h .dfr xs = some r) :
 OpRes P c ((execOp ρ o).run P c.w) r := by
 obtain ⟨a, ys, rfl, ha, hys⟩ := inCons hx
 obtain ⟨m, g, first, cap, rfl, hlt, rfl⟩ := fn_casesD hr
 simp only [relA] at ha
 obtain ⟨vs, us, e, h1, h2⟩ := ha
 refine ⟨hlt, ⟨.fn (.func g) us, vs ++ cl.args.map ρ⟩, us, ?_, rfl, ?_⟩
 · unfold execOp
   simp only [ho, resolve, hcl, e, Deferred.ofValue, Sem.run_bind, Sem.run_pure, Result.andThen]
 · simp only [Array.toList_append, Array.toList_map]
   exact relL_append (relL_append h1 hys) h2
theorem op_panic (ok : Ok c) {x : Operand} (ho : o.op = .panic x) (hx : relL c xs [ρ x]) (hr : opSem c.h .panic xs = some r) : OpRes P c ((execOp ρ o).run P c.w) r := by
 obtain ⟨a, rfl, ha⟩ := in1 hx
 cases a <;> try (simp only [opSem, reduceCtorEq] at hr; done)
 simp only [opSem, Option.some.injEq] at hr
 subst hr
 simp only [relA] at ha
 obtain ⟨u, e, ha⟩ := ha
 refine ⟨.iface _ u, ?_, by simp only [relA]; exact ⟨u, rfl, ha⟩⟩
 unfold execOp
 simp only [ho, Sem.run_bind, e, Instr.panic]
 rfl
theorem run_builtin {cl : Call} {b : Builtin} (ho : o.op = .call cl) (hcl : cl.callee = .builtin b) {w : World} :
 (execOp ρ o).run P w = (builtin b cl.argTypes o.type (cl.args.map fun | .const _ => true | _ => false) (cl.args.map ρ)).run P w := by
 unfold execOp
 simp only [ho, resolve, hcl, Sem.run_bind, Sem.run_pure, Result.andThen, invoke]
 rfl
theorem op_app (ok : Ok c) {cl : Call} {x y : Operand} {sT xT e : TypeId} {i : TypeInfo} {z : Value} (ho : o.op = .call cl) (hcl : cl.callee = .builtin .append) (hargs : cl.args.toList = [x, y]) (hts : cl.argTypes.toList = [sT, xT])
 (hs : P.underlying sT = some (.slice e)) (hk : srcKind P xT = true) (hi : P.info? e = some i) (hz : i.zero = some z) (hsz : z.cells.size = i.size) (hb : 0 < i.bytes) (hx : relL c xs [ρ x, ρ y])
 (hr : opSem c.h (.app e i.size i.bytes) xs = some r) : OpRes P c ((execOp ρ o).run P c.w) r := by
 obtain ⟨a, b, rfl, ha, hb'⟩ := in2 hx
 simp only [opSem] at hr
 split at hr
 · rename_i more hm
   split at hr
   · rename_i v h' happ
     cases hr
     rw [run_builtin ho hcl]
     have e1 : cl.argTypes = #[sT, xT] := by rw [← Array.toArray_toList (xs := cl.argTypes), hts]
     have e2 : cl.args.map ρ = #[ρ x, ρ y] := by rw [← Array.toArray_toList (xs := cl.args), hargs]; simp
     rw [e1, e2]
     obtain ⟨c', u, h1, h2, h3, h4, h5⟩ := s_append ok (ty := o.type) hs hk ⟨i, z, hi, hz, rfl, rfl, hsz, hb⟩ ha hb' hm happ
     simp only [builtin, Sem.run_bind, h1, Result.andThen, Sem.run_pure]
     exact ⟨c', .inl ⟨u, rfl, h5⟩, h2, h3, h4⟩
   · cases hr
 · cases hr
theorem op_appT (ok : Ok c) {cl : Call} {x y : Operand} {sT xT e : TypeId} {i : TypeInfo} {z : Value} (ho : o.op = .call cl) (hcl : cl.callee = .builtin .append) (hargs : cl.args.toList = [x, y]) (hts : cl.argTypes.toList = [sT, xT])
 (hs : P.underlying sT = some (.slice e)) (hk : srcKind P xT = true) (hi : P.info? e = some i) (hz : i.zero = some z) (hsz : z.cells.size = i.size) (hb : 0 < i.bytes) (hx : relL c xs [ρ x, ρ y])
 (hr : opSem c.h (.appT e i.size i.bytes) xs = some r) : OpRes P c ((execOp ρ o).run P c.w) r := by
 obtain ⟨a, b, rfl, ha, hb'⟩ := in2 hx
 simp only [opSem] at hr
 split at hr
 · rename_i a1 h1 ht
   obtain ⟨c1, hw, hh, ok1, G, ha1⟩ := trunc_ok ok ha ht
   rw [← hh] at hr
   have := op_app (c := c1) (ρ := ρ) ok1 ho hcl hargs hts hs hk hi hz hsz hb (xs := [a1, b]) (relL_cons.2 ⟨ha1, relL_cons.2 ⟨relA_goes G ok _ _ hb', rfl⟩⟩) (r := r) (by simp only [opSem]; exact hr)
   rw [hw] at this
   split at hr
   · split at hr
     · cases hr; exact OpRes.before ok hw G this
     · cases hr
   · cases hr
 · exact op_app ok ho hcl hargs hts hs hk hi hz hsz hb hx (by simp only [opSem]; exact hr)
theorem op_appZ (ok : Ok c) {cl : Call} {x y : Operand} {sT xT e : TypeId} {kn : IntKind} {i : TypeInfo} {z : Value} {zs : List DV} (ho : o.op = .call cl) (hcl : cl.callee = .builtin .append) (hargs : cl.args.toList = [x, y]) (hts : cl.argTypes.toList = [sT, xT])
 (hu : P.underlying sT = some (.slice e)) (hk : P.underlying xT = some (.int kn)) (hi : P.info? e = some i) (hz : i.zero = some z) (hc : compCellsD z.cells.toList = some zs) (hs : z.cells.size = i.size) (h0 : 0 < i.size) (hb0 : 0 < i.bytes) (hx : relL c xs [ρ x, ρ y])
 (hr : opSem c.h (.appZ e i.size i.bytes zs) xs = some r) : OpRes P c ((execOp ρ o).run P c.w) r := by
 obtain ⟨a, b, rfl, ha, hb⟩ := in2 hx
 cases a <;> try (simp only [opSem, reduceCtorEq] at hr; done)
 rename_i a; cases a <;> try (simp only [opSem, reduceCtorEq] at hr; done)
 cases b <;> try (simp only [opSem, reduceCtorEq] at hr; done)
 rename_i b; cases b <;> try (simp only [opSem, reduceCtorEq] at hr; done)
 rename_i k n; cases n <;> try (simp only [opSem, reduceCtorEq] at hr; done)
 rename_i n
 simp only [opSem] at hr
 split at hr
 · rename_i h1 h2
   cases hr
   have h1 : 0 < n := Nat.le_of_ble_eq_true h1
   have hroom := room_le h2
   simp only [relA, relD] at ha hb
   have hn : n ≤ 140737488355328 := Nat.le_trans (Nat.le_mul_of_pos_right _ hb0) hroom
   have hrun := Lib.run_append_nil_zeros (P := P) c.w sT xT o.type e i z k kn hu hk hi hz n h1 h0 (by omega) (by omega)
   rw [run_builtin ho hcl]
   have e1 : cl.argTypes = #[sT, xT] := by rw [← Array.toArray_toList (xs := cl.argTypes), hts]
   have e2 : cl.args.map ρ = #[ρ x, ρ y] := by rw [← Array.toArray_toList (xs := cl.args), hargs]; simp
   rw [e1, e2]
   have okd := ok_drew ok
   have hcap : n ≤ grownCap c.w n 0 e := by unfold grownCap Question.cut; simp only; omega
   have hmade : Builtin.zeroCells z.cells n = madeCells z.cells (n * i.size) := by
    unfold Builtin.zeroCells madeCells
    rw [hs]
   have hflat := flat_made (c := c.drew) hc hs h0 n
   have hN := s_newarr (c := c.drew) okd (nl := false) (sz := i.size) (rows := List.replicate n zs) (us := (madeCells z.cells (n * i.size)).toList)
    (vs := (madeCells z.cells (n * i.size)).toList ++ (Builtin.zeroCells z.cells (grownCap c.w n 0 e - n)).toList) (e := e) (fz := (0, 0)) (cap := grownCap c.w n 0 e)
    (by simp) hflat (List.prefix_append _ _) (fun k _ => by simp) (by simpa using hcap) (by
     simp only [List.length_append, Array.length_toList, size_madeCells, Builtin.zeroCells, Array.size_map, Array.size_range, hs]
     rw [← Nat.add_mul]
     exact Nat.mul_le_mul_right _ (by omega))
   rw [List.length_replicate] at hN
   simp only [Int.ofNat_eq_natCast] at hb
   simp only [builtin, Sem.run_bind, ha, hb, hrun, Result.andThen, Sem.run_pure]
   refine ⟨_, .inl ⟨_, ?_, hN.2⟩, rfl, hN.1, Goes.trans ok.fbs goes_drew (goes_more okd _ _ _ _)⟩
   rw [hmade]
   have e3 : ∀ a b : Array Value, a ++ b = (a.toList ++ b.toList).toArray := fun a b => by simp
   simp only [Cx.more, Cx.drew]
   rw [e3]
   rfl
 · cases hr
theorem op_capn (ok : Ok c) {cl : Call} {x : Operand} {t e : TypeId} (ho : o.op = .call cl) (hcl : cl.callee = .builtin .cap) (hargs : cl.args.toList = [x]) (hts : cl.argTypes.toList = [t])
 (hu : P.underlying t = some (.slice e)) (hx : relL c xs [ρ x]) (hr : opSem c.h .capn xs = some r) : OpRes P c ((execOp ρ o).run P c.w) r := by
 obtain ⟨a, rfl, ha⟩ := in1 hx
 cases a <;> try (simp only [opSem, reduceCtorEq] at hr; done)
 rename_i a; cases a <;> try (simp only [opSem, reduceCtorEq] at hr; done)
 simp only [opSem, Option.some.injEq] at hr
 subst hr
 simp only [relA, relD] at ha
 rw [run_builtin ho hcl]
 have e1 : cl.argTypes = #[t] := by rw [← Array.toArray_toList (xs := cl.argTypes), hts]
 have e2 : cl.args.map ρ = #[ρ x] := by rw [← Array.toArray_toList (xs := cl.args), hargs]; simp
 rw [e1, e2]
 have e3 : ∀ ty, (Builtin.cap_ #[t] ty #[Value.slice none 0 0]).run P c.w = .ok (goInt 0) c.w := fun ty => by
  simp [Builtin.cap_, Sem.run_bind, run_underlying hu, Result.andThen, Sem.run_pure]
 simp only [builtin, Sem.run_bind, ha, e3, Result.andThen, Sem.run_pure]
 exact .value ok (by simp [relA, relD, goInt])
theorem op_len (ok : Ok c) {cl : Call} {x : Operand} {t e : TypeId} (ho : o.op = .call cl) (hcl : cl.callee = .builtin .len) (hargs : cl.args.toList = [x]) (hts : cl.argTypes.toList = [t])
 (hu : P.underlying t = some (.slice e)) (hx : relL c xs [ρ x]) (hr : opSem c.h .len xs = some r) : OpRes P c ((execOp ρ o).run P c.w) r := by
 obtain ⟨a, rfl, ha⟩ := in1 hx
 simp only [opSem] at hr
 split at hr
 · rename_i n hn
   cases hr
   rw [run_builtin ho hcl]
   have e1 : cl.argTypes = #[t] := by rw [← Array.toArray_toList (xs := cl.argTypes), hts]
   have e2 : cl.args.map ρ = #[ρ x] := by rw [← Array.toArray_toList (xs := cl.args), hargs]; simp
   rw [e1, e2]
   simp only [builtin, Sem.run_bind, o_len ha hn hu, Result.andThen, Sem.run_pure]
   exact .value ok (by simp [relA, relD])
 · cases hr
theorem op_lens (ok : Ok c) {cl : Call} {x : Operand} {t : TypeId} (ho : o.op = .call cl) (hcl : cl.callee = .builtin .len) (hargs : cl.args.toList = [x]) (hts : cl.argTypes.toList = [t])
 (hu : P.underlying t = some .string) (hx : relL c xs [ρ x]) (hr : opSem c.h .lens xs = some r) : OpRes P c ((execOp ρ o).run P c.w) r := by
 obtain ⟨a, rfl, ha⟩ := in1 hx
 cases a <;> try (simp only [opSem, reduceCtorEq] at hr; done)
 rename_i a; cases a <;> try (simp only [opSem, reduceCtorEq] at hr; done)
 simp only [opSem, Option.some.injEq] at hr
 subst hr
 simp only [relA, relD] at ha
 rw [run_builtin ho hcl]
 have e1 : cl.argTypes = #[t] := by rw [← Array.toArray_toList (xs := cl.argTypes), hts]
 have e2 : cl.args.map ρ = #[ρ x] := by rw [← Array.toArray_toList (xs := cl.args), hargs]; simp
 rw [e1, e2]
 simp only [builtin, Sem.run_bind, ha, o_lens hu, Result.andThen, Sem.run_pure]
 exact .value ok (by simp [relA, relD])
theorem op_min (ok : Ok c) {cl : Call} {x : Operand} {l : List Operand} (ho : o.op = .call cl) (hcl : cl.callee = .builtin .min) (hargs : cl.args.toList = x :: l) (hx : relL c xs ((x :: l).map ρ)) (hr : opSem c.h .min xs = some r) :
 OpRes P c ((execOp ρ o).run P c.w) r := by
 obtain ⟨a, ys, rfl, ha, hys⟩ := inCons hx
 simp only [opSem] at hr
 rw [run_builtin ho hcl]
 have e2 : (cl.args.map ρ).toList = ρ x :: l.map ρ := by rw [Array.toList_map, hargs]; rfl
 simp only [builtin, Builtin.min_, e2, Sem.run_bind]
 exact OpRes.val ok hr fun y hy => o_minL hy ha hys
theorem op_max (ok : Ok c) {cl : Call} {x : Operand} {l : List Operand} (ho : o.op = .call cl) (hcl : cl.callee = .builtin .max) (hargs : cl.args.toList = x :: l) (hx : relL c xs ((x :: l).map ρ)) (hr : opSem c.h .max xs = some r) :
 OpRes P c ((execOp ρ o).run P c.w) r := by
 obtain ⟨a, ys, rfl, ha, hys⟩ := inCons hx
 simp only [opSem] at hr
 rw [run_builtin ho hcl]
 have e2 : (cl.args.map ρ).toList = ρ x :: l.map ρ := by rw [Array.toList_map, hargs]; rfl
 simp only [builtin, Builtin.max_, e2, Sem.run_bind]
 exact OpRes.val ok hr fun y hy => o_maxL hy ha hys
theorem op_recov (ok : Ok c) {cl : Call} (ho : o.op = .call cl) (hcl : cl.callee = .builtin .recover) (hx : relL c xs []) (hr : opSem c.h .recov xs = some r) : OpRes P c ((execOp ρ o).run P c.w) r := by
 cases in0 hx
 simp only [opSem, Option.some.injEq] at hr
 subst hr
 rw [run_builtin ho hcl]
 rfl
theorem op_sdat (ok : Ok c) {cl : Call} {x : Operand} (ho : o.op = .call cl) (hcl : cl.callee = .builtin .unsafeSliceData) (hargs : cl.args.toList = [x]) (hx : relL c xs [ρ x])
 (hr : opSem c.h .sdat xs = some r) : OpRes P c ((execOp ρ o).run P c.w) r := by
 obtain ⟨a, rfl, ha⟩ := in1 hx
 have e2 : cl.args.map ρ = #[ρ x] := by rw [← Array.toArray_toList (xs := cl.args), hargs]; simp
 have hdef : ∀ _ : Nat, (execOp ρ o).run P c.w = (do pure (Next.value (← Builtin.unsafeSliceData_ cl.argTypes o.type #[ρ x])) : Sem Next).run P c.w := fun _ => by
  rw [run_builtin ho hcl, e2]; rfl
 simp only [opSem] at hr
 split at hr
 · rename_i hk hn
   cases hr
   obtain ⟨_, h1, _⟩ := isNil_val ok ha hn
   obtain ⟨p, n, m, e, hp⟩ := h1 (Nat.eq_of_beq_eq_true hk)
   cases p with
   | some p => simp at hp
   | none =>
    rw [hdef 0, e]
    simp only [Sem.run_bind, Lib.run_unsafeSliceData_nil c.w, Result.andThen, Sem.run_pure]
    exact .value ok (by simp [relA, relD])
 · rename_i hk hn
   split at hr
   · rename_i i g lo hi
     split at hr
     · rename_i hlt
       have hlt : lo < hi := Nat.le_of_ble_eq_true hlt
       cases hr
       have ha' := ha
       simp only [relA] at ha
       obtain ⟨_, a, cap, own, ty, nl, g', sz, rows, e, ho', hle, hcur⟩ := ha
       have hg : g' = g := by
        simp only [isNil, ho'] at hn
        cases hb : Nat.beq g g' with
        | true => exact (Nat.eq_of_beq_eq_true hb).symm
        | false => simp [hb] at hn
       obtain ⟨hhi, h1⟩ := hcur hg
       rcases h1 with ⟨_, rfl, _⟩ | ⟨b, q, hb, rfl, hcap, hcs⟩
       · simp at hhi; omega
       · rw [hdef 0, e]
         simp only [Sem.run_bind, Lib.run_unsafeSliceData_row c.w _ _ _ _ _ (show cap ≠ 0 by omega), Result.andThen, Sem.run_pure]
         refine .value ok ?_
         simp only [relA]
         exact ⟨_, own, ty, nl, g', sz, rows, rfl, ho', hle, fun _ => ⟨b, q, hb, by simp⟩⟩
     · cases hr
   · cases hr
 · cases hr
theorem op_ustr (ok : Ok c) {cl : Call} {x y : Operand} {pT iT e : TypeId} (ho : o.op = .call cl) (hcl : cl.callee = .builtin .unsafeString) (hargs : cl.args.toList = [x, y]) (hts : cl.argTypes.toList = [pT, iT])
 (hu : P.underlying pT = some (.pointer e)) (he : P.cellsOf e = 1) (hx : relL c xs [ρ x, ρ y]) (hr : opSem c.h (.ustr e) xs = some r) : OpRes P c ((execOp ρ o).run P c.w) r := by
 obtain ⟨a, b, rfl, ha, hb⟩ := in2 hx
 have e1 : cl.argTypes = #[pT, iT] := by rw [← Array.toArray_toList (xs := cl.argTypes), hts]
 have e2 : cl.args.map ρ = #[ρ x, ρ y] := by rw [← Array.toArray_toList (xs := cl.args), hargs]; simp
 have hdef : ∀ _ : Nat, (execOp ρ o).run P c.w = (do pure (Next.value (← Builtin.unsafeString_ #[pT, iT] o.type #[ρ x, ρ y])) : Sem Next).run P c.w := fun _ => by
  rw [run_builtin ho hcl, e1, e2]; rfl
 cases b <;> try (simp only [opSem, reduceCtorEq] at hr; done)
 rename_i b; cases b <;> try (simp only [opSem, reduceCtorEq] at hr; done)
 rename_i k n; cases k <;> try (simp only [opSem, reduceCtorEq] at hr; done)
 simp only [relA, relD] at hb
 simp only [opSem] at hr
 split at hr
 · rename_i hz
   have hz : n = 0 := by unfold iz at hz; simpa using hz
   subst hz
   have hv : ∃ p, ρ x = .pointer p := by
    cases a <;> try (simp only [reduceCtorEq] at hr; done)
    · rename_i d; cases d <;> try (simp only [reduceCtorEq] at hr; done)
      simp only [relA, relD] at ha; exact ⟨_, ha⟩
    · simp only [relA] at ha; obtain ⟨p, _, _, _, _, _, _, h, _⟩ := ha; exact ⟨_, h⟩
   have hr : r = .v (S []) c.h := by
    cases a <;> try (simp only [reduceCtorEq] at hr; done)
    · rename_i d; cases d <;> try (simp only [reduceCtorEq] at hr; done)
      simpa using hr.symm
    · simpa using hr.symm
   subst hr
   obtain ⟨p, hv⟩ := hv
   rw [hdef 0, hv, hb]
   simp only [Sem.run_bind, run_unsafeString_none c.w, Result.andThen, Sem.run_pure]
   exact .value ok (by simp [relA, relD]; rfl)
 · rename_i hz
   have hz : n ≠ 0 := by unfold iz at hz; simpa using hz
   split at hr
   · rename_i i g rr
     split at hr
     · rename_i ty nl g' sz rows hi
       split at hr
       · rename_i part hc1 hcut hroom
         split at hr
         · rename_i s hs
           cases hr
           simp only [Bool.and_eq_true] at hc1
           obtain ⟨⟨c1, c2⟩, c3⟩ := hc1
           have c1 := Nat.eq_of_beq_eq_true c1
           have c2 := Nat.eq_of_beq_eq_true c2
           have c3 := Nat.eq_of_beq_eq_true c3
           subst c1 c2 c3
           simp only [relA] at ha
           obtain ⟨p, own, ty', nl', g', sz', rows', e3, hi', hle, hcur⟩ := ha
           rw [hi] at hi'
           cases hi'
           obtain ⟨b, q, hbs, rfl⟩ := hcur rfl
           unfold icut at hcut
           split at hcut
           · rename_i hbd
             cases hcut
             obtain ⟨_, hle1, hle2⟩ := hbd
             obtain ⟨m, rfl⟩ : ∃ m : Nat, n = m := ⟨n.toNat, by omega⟩
             have hO := ok.obj i _ hi
             simp only [relO] at hO
             rcases hO with ⟨_, _, hb'⟩ | ⟨hnn, b', q', hb', ⟨cv, fz, hT⟩, hsz, _, _, _, hcell⟩
             · rw [hbs] at hb'; cases hb'
             · rw [hbs] at hb'
               cases hb'
               unfold textOf at hs
               obtain ⟨hlen, hbytes⟩ := mapM_rowByte hs
               have hpl : ((List.take (((rr : Int) + (m : Int)).toNat) rows).drop (rr : Int).toNat).length = m := by simp; omega
               -- the numbers in the cells
               have hns : ∃ ns : List Int, ns.length = m ∧ (ns.map fun n => UInt8.ofNat n.toNat) = s ∧ ∀ (j : Nat) x, ns[j]? = some x → cel c.w b (q + rr + j) = some (.int .u8 x) := by
                have key : ∀ (k : Nat) (s : List UInt8), s.length = k → ∀ (o : Nat), (∀ (j : Nat) b', s[j]? = some b' → ∃ n : Int, cel c.w b (o + j) = some (.int .u8 n) ∧ b' = UInt8.ofNat n.toNat) →
                 ∃ ns : List Int, ns.length = k ∧ (ns.map fun n => UInt8.ofNat n.toNat) = s ∧ ∀ (j : Nat) x, ns[j]? = some x → cel c.w b (o + j) = some (.int .u8 x) := by
                 intro k
                 induction k with
                 | zero => intro s h1 o _; exact ⟨[], rfl, (List.eq_nil_of_length_eq_zero h1).symm, fun j x hj => by simp at hj⟩
                 | succ k ih =>
                  intro s h1 o h2
                  cases s with
                  | nil => simp at h1
                  | cons x s =>
                   obtain ⟨n0, hn0, rfl⟩ := h2 0 x rfl
                   obtain ⟨ns, g1, rfl, g3⟩ := ih s (by simpa using h1) (o + 1) fun j y hj => by
                    obtain ⟨n, hn, e⟩ := h2 (j + 1) y (by simpa using hj)
                    exact ⟨n, by rw [← hn]; congr 1; omega, e⟩
                   refine ⟨n0 :: ns, by simp [g1], rfl, fun j y hj => ?_⟩
                   cases j with
                   | zero => simp at hj; subst hj; exact hn0
                   | succ j => rw [← g3 j y (by simpa using hj)]; congr 1; omega
                refine key m s (by rw [hlen, hpl]) (q + rr) fun j x hj => ?_
                obtain ⟨n, hn, e⟩ := hbytes j x hj
                refine ⟨n, ?_, e⟩
                rw [List.getElem?_drop, List.getElem?_take] at hn
                split at hn
                · obtain ⟨_, hcells⟩ := hcell _ _ hn
                  obtain ⟨v, hv, hrel⟩ := hcells 0 (.int .u8 n) rfl
                  simp only [relD] at hrel
                  subst hrel
                  rw [← hv]
                  congr 1
                  simp
                  omega
                · cases hn
               obtain ⟨ns, hn1, hn2, hn3⟩ := hns
               subst hn2
               have hcv : csize c.w b = cv.size := by simp [csize, hT]
               have hm0 : m ≠ 0 := by omega
               have hroom' : m ≤ 9223372036854775807 := by unfold roomS at hroom; simpa using hroom
               have hrl : rr + m ≤ rows.length := by omega
               have hrun := run_unsafeString (P := P) c.w pT iT o.type _ hu he b (q + rr) cv.size (by simp [World.shape?, hT]) ns (fun h => by subst h; simp at hn1; omega) (by rw [hn1]; omega) (by omega)
                (fun j x hj => by rw [add_plain]; exact hn3 j x hj)
               rw [hn1] at hrun
               have G := goes_froze ok hi hbs (q + rr) m
               refine ⟨c.froze i b (q + rr) m _ g, .inl ⟨.string ⟨(ns.map fun n => UInt8.ofNat n.toNat).toArray⟩, ?_, by simp [relA, relD]⟩, rfl, ok_froze ok hi hbs _ _, G⟩
               rw [hdef 0, e3, hb]
               simp only [Nat.mul_one, Nat.add_zero, Sem.run_bind, hrun, Result.andThen, Sem.run_pure]
               rfl
           · cases hcut
         · cases hr
       · cases hr
     · cases hr
   · cases hr
theorem op_sound (ok : Ok c) (hconst : ∀ v, ρ (.const v) = v) (hc : compOp P cfg draw o.op = some (act, opds)) (hx : relL c xs (opds.map ρ)) (hr : opSem c.h act xs = some r) :
 OpRes P c ((execOp ρ o).run P c.w) r := by
 unfold compOp at hc
 split at hc
 all_goals try (cases hc; done)
 · rename_i x ho; cases hc; exact op_move ok (.inl ho) hx hr
 · rename_i x ho; cases hc; exact op_move ok (.inr ho) hx hr
 · rename_i ho; cases hc; exact op_pick ok ho hx hr
 · rename_i ho
   split at hc
   · rename_i i hi
     split at hc
     · rename_i z hz
       simp only [Option.map_eq_some_iff, Prod.mk.injEq] at hc
       obtain ⟨zs, h1, rfl, rfl⟩ := hc
       exact op_alloc ok ho hi hz h1 hx hr
     · cases hc
   · cases hc
 · rename_i ho; cases hc; exact op_box ok ho hx hr
 · rename_i ho
   split at hc
   · rename_i fs i hu hi
     split at hc
     · rename_i z ps os hz hall hp
       simp only [Option.map_eq_some_iff, Prod.mk.injEq] at hc
       obtain ⟨zs, h1, rfl, rfl⟩ := hc
       exact op_build ok ho hu hi hz hall hp h1 hx hr
     · cases hc
   · rename_i n e i hu hi
     split at hc
     · rename_i z ie hz hie
       simp only [Option.map_eq_some_iff, Prod.mk.injEq] at hc
       obtain ⟨zs, h1, rfl, rfl⟩ := hc
       exact op_buildA ok ho hu hi hz hie h1 hx hr
     · cases hc
   · cases hc
 · rename_i ho
   split at hc
   · rename_i e hu
     split at hc
     · rename_i i hi
       split at hc
       · rename_i z hz
         split at hc
         · rename_i zs hzs hb
           simp only [Bool.and_eq_true] at hb
           split at hc
           · cases hc
             exact op_bsl ok ho hu hi hz hzs (Nat.eq_of_beq_eq_true hb.1.1) (Nat.le_of_ble_eq_true hb.1.2) (Nat.le_of_ble_eq_true hb.2) hx hr
           · cases hc
             exact op_bslT ok ho hu hi hz hzs (Nat.eq_of_beq_eq_true hb.1.1) (Nat.le_of_ble_eq_true hb.1.2) (Nat.le_of_ble_eq_true hb.2) hx hr
         · cases hc
       · cases hc
     · cases hc
   · cases hc
 · rename_i ho
   simp only [Option.map_eq_some_iff, Prod.mk.injEq] at hc
   obtain ⟨n, h1, rfl, rfl⟩ := hc
   exact op_load ok ho h1 hx hr
 · rename_i ho
   split at hc
   · split at hc
     · simp only [Option.map_eq_some_iff, Prod.mk.injEq] at hc
       obtain ⟨i, h1, rfl, rfl⟩ := hc
       exact op_storeT ok ho (by rw [h1]; rfl) hx hr
     · simp only [Option.map_eq_some_iff, Prod.mk.injEq] at hc
       obtain ⟨i, h1, rfl, rfl⟩ := hc
       exact op_store ok ho (by rw [h1]; rfl) hx hr
   · simp only [Option.map_eq_some_iff, Prod.mk.injEq] at hc
     obtain ⟨i, h1, rfl, rfl⟩ := hc
     exact op_storeT ok ho (by rw [h1]; rfl) hx hr
 · rename_i ho; cases hc; exact op_nilck ok ho hx hr
 · rename_i op t x y yt ho
   split at hc
   · simp only [Option.map_eq_some_iff, Prod.mk.injEq] at hc
     obtain ⟨q, h1, rfl, rfl⟩ := hc
     exact op_bin ok ho hconst (fun _ => h1) hx hr
   · simp only [Option.map_eq_some_iff, Prod.mk.injEq] at hc
     obtain ⟨q, h1, rfl, rfl⟩ := hc
     exact op_bin ok ho hconst (fun _ => h1) hx hr
   · rename_i h1 h2
     cases hc
     exact op_bin ok ho hconst (fun h => by rcases h with h | h; exact (h1 h).elim; exact (h2 h).elim) hx hr
 · rename_i ho; cases hc; exact op_un ok ho hx hr
 · rename_i ho
   split at hc
   · rename_i d k hs hd; cases hc; exact op_cvi ok ho (by rw [hs]; rfl) hd hx hr
   · rename_i hs hd; cases hc; exact op_cvs ok ho hs hd hx hr
   · rename_i t hs hd
     split at hc
     · rename_i i hi
       split at hc
       · cases hc
       · rename_i h0; cases hc; exact op_cvu ok ho hs hd hi h0 hx hr
     · cases hc
   · rename_i u hs hd
     split at hc
     · rename_i i hi
       split at hc
       · rename_i h0 hl; cases hc; exact op_cvp ok ho hs hd hi h0 hl hx hr
       · cases hc
     · cases hc
   · rename_i e hs hd
     split at hc
     · rename_i he; cases hc; exact op_s2b ok ho hs hd he hx hr
     · cases hc
   · rename_i e hs hd
     split at hc
     · rename_i he; cases hc; exact op_b2s ok ho hs he hd hx hr
     · cases hc
   · cases hc
 · rename_i ho
   split at hc
   · rename_i d hu
     split at hc
     · rename_i hd; cases hc; exact op_mki ok ho hu hd hx hr
     · cases hc
   · cases hc
 · rename_i ho; cases hc; exact op_mkf ok ho hx hr
 · rename_i ho
   split at hc
   · rename_i e hu
     split at hc
     · rename_i i hi
       split at hc
       · rename_i z hz
         split at hc
         · rename_i zs hzs hb
           cases hc
           simp only [Bool.and_eq_true] at hb
           exact op_mks ok ho hu hi hz hzs (Nat.eq_of_beq_eq_true hb.1.1) (Nat.le_of_ble_eq_true hb.1.2) (Nat.le_of_ble_eq_true hb.2) hx hr
         · cases hc
       · cases hc
     · cases hc
   · cases hc
 · rename_i ho
   split at hc
   · rename_i hu; cases hc; exact op_cuts ok ho hu hx hr
   · rename_i e hu
     split at hc
     · rename_i i hi; cases hc; exact op_cutr ok ho hu hi hx hr
     · cases hc
   · rename_i n e hu
     split at hc
     · rename_i i hi; cases hc; exact op_cuta ok ho hu hi hx hr
     · cases hc
   · cases hc
 · rename_i ho
   split at hc
   · rename_i fs hu
     split at hc
     · rename_i f hf
       split at hc
       · rename_i i hi
         split at hc
         · cases hc
         · rename_i h0; cases hc; exact op_fad ok ho hu hf hi (fun e => by simp [e] at h0) hx hr
       · cases hc
     · cases hc
   · cases hc
 · rename_i ho
   split at hc
   · rename_i fs hu
     split at hc
     · rename_i f hf
       simp only [Option.map_eq_some_iff, Prod.mk.injEq] at hc
       obtain ⟨n, h1, rfl, rfl⟩ := hc
       exact op_fld ok ho hu hf h1 hx hr
     · cases hc
   · cases hc
 · rename_i ho
   split at hc
   · rename_i e hu
     simp only [Option.map_eq_some_iff, Prod.mk.injEq] at hc
     obtain ⟨ie, h1, rfl, rfl⟩ := hc
     exact op_iad ok ho hu h1 hx hr
   · rename_i len e hu
     simp only [Option.map_eq_some_iff, Prod.mk.injEq] at hc
     obtain ⟨ie, h1, rfl, rfl⟩ := hc
     exact op_iadA ok ho hu h1 hx hr
   · cases hc
 · rename_i ho
   split at hc
   · rename_i hu; cases hc; exact op_idxs ok ho hu hx hr
   · rename_i len e hu
     split at hc
     · rename_i ie n hi hn; cases hc; exact op_idxA ok ho hu hi hn hx hr
     · cases hc
   · cases hc
 · rename_i ho; cases hc; exact op_ext ok ho hx hr
 · rename_i ho
   split at hc
   · rename_i d i hu hi
     split at hc
     · rename_i z hd hz
       simp only [Option.map_eq_some_iff, Prod.mk.injEq] at hc
       obtain ⟨za, h1, rfl, rfl⟩ := hc
       exact op_tas ok ho hu hd hi hz h1 hx hr
     · cases hc
   · cases hc
 · rename_i cl ho
   split at hc
   · rename_i f hcl; cases hc; exact op_call ok ho hcl hx hr
   · rename_i b hcl
     cases hcb : compBuiltin P b cl.args.toList cl.argTypes.toList with
     | none => rw [hcb] at hc; cases draw <;> cases hc
     | some q =>
     rw [hcb] at hc
     obtain ⟨act0, xs0⟩ := q
     have hcase : (∃ ee sz bytes, act0 = .app ee sz bytes ∧ act = .appT ee sz bytes ∧ xs0 = opds) ∨ (act0 = act ∧ xs0 = opds) := by
      cases draw with
      | true => cases hc; exact .inr ⟨rfl, rfl⟩
      | false =>
       unfold notDrawn at hc
       split at hc
       · rename_i he
         cases he
         cases hc
         exact .inl ⟨_, _, _, rfl, rfl, rfl⟩
       · cases hc; exact .inr ⟨rfl, rfl⟩
     rcases hcase with ⟨ee, sz, bytes, rfl, rfl, rfl⟩ | ⟨rfl, rfl⟩
     · clear hc
       unfold compBuiltin at hcb
       split at hcb
       · rename_i x y sT xT hargs hts
         split at hcb
         · rename_i e hu hk
           split at hcb
           · rename_i i hi
             split at hcb
             · rename_i z hz
               split at hcb
               · rename_i hb
                 cases hcb
                 simp only [Bool.and_eq_true] at hb
                 exact op_appT ok ho hcl hargs hts hu hk hi hz (Nat.eq_of_beq_eq_true hb.1) (Nat.le_of_ble_eq_true hb.2) hx hr
               · cases hcb
             · cases hcb
           · cases hcb
         · exfalso
           repeat' split at hcb
           all_goals cases hcb
         · cases hcb
       all_goals
        exfalso
        repeat' split at hcb
        all_goals cases hcb
     clear hc
     have hc := hcb
     unfold compBuiltin at hc
     split at hc
     · rename_i x y sT xT hargs hts
       split at hc
       · rename_i e hu hk
         split at hc
         · rename_i i hi
           split at hc
           · rename_i z hz
             split at hc
             · rename_i hb
               cases hc
               simp only [Bool.and_eq_true] at hb
               exact op_app ok ho hcl hargs hts hu hk hi hz (Nat.eq_of_beq_eq_true hb.1) (Nat.le_of_ble_eq_true hb.2) hx hr
             · cases hc
           · cases hc
         · cases hc
       · rename_i e hu hk
         split at hc
         · rename_i kn i hkn hi
           split at hc
           · rename_i z hz
             split at hc
             · rename_i zs hzs hb
               cases hc
               simp only [Bool.and_eq_true] at hb
               exact op_appZ ok ho hcl hargs hts hu hkn hi hz hzs (Nat.eq_of_beq_eq_true hb.1.1) (Nat.le_of_ble_eq_true hb.1.2) (Nat.le_of_ble_eq_true hb.2) hx hr
             · cases hc
           · cases hc
         · cases hc
       · cases hc
     · rename_i x t hargs hts
       split at hc
       · rename_i hu; cases hc; exact op_lens ok ho hcl hargs hts hu hx hr
       · rename_i e hu; cases hc; exact op_len ok ho hcl hargs hts hu hx hr
       · cases hc
     · rename_i x t hargs hts
       split at hc
       · rename_i e hu; cases hc; exact op_capn ok ho hcl hargs hts hu hx hr
       · cases hc
     · rename_i hargs; cases hc; exact op_min ok ho hcl hargs hx hr
     · rename_i hargs; cases hc; exact op_max ok ho hcl hargs hx hr
     · cases hc; exact op_recov ok ho hcl hx hr
     · rename_i hargs; cases hc; exact op_sdat ok ho hcl hargs hx hr
     · rename_i hargs hts
       split at hc
       · rename_i e hu
         split at hc
         · rename_i h1; cases hc; exact op_ustr ok ho hcl hargs hts hu (Nat.eq_of_beq_eq_true h1) hx hr
         · cases hc
       · cases hc
     · cases hc
   · cases hc
 · rename_i cl ho
   split at hc
   · rename_i f hcl; cases hc; exact op_dfr ok ho hcl hx hr
   · cases hc
 · rename_i ho; cases hc; exact op_panic ok ho hx hr
end
end Go.Proofs.YtlhajccbfapieaaGreatDoor.Ab
