/- Each operation of the model against the interpreter's: aggregates and arrays that are built, fields, lengths. -/
import Derived.Test.YtlhajccbfapieaaGreatDoorAbStep2
namespace Go.Proofs.YtlhajccbfapieaaGreatDoor.Ab
open Go
set_option linter.unusedVariables false
set_option linter.unusedSimpArgs false
section
variable {P : Program} {c : Cx}
theorem laid_list : ∀ (l : List Value) (n off : Nat) (cells : Array Value), off + n + l.length ≤ cells.size →
 ((l.zipIdx n).foldl (fun cs (p : Value × Nat) => cs.setIfInBounds (off + p.2) p.1) cells).toList = splice cells.toList (off + n) l
 | [], n, off, cells, _ => by simp [splice]
 | v :: l, n, off, cells, h => by
  simp only [List.zipIdx_cons, List.foldl_cons]
  rw [laid_list l (n + 1) off _ (by simp at h ⊢; omega)]
  apply List.ext_getElem?
  intro j
  have hl : cells.toList.length = cells.size := by simp
  simp only [List.length_cons] at h
  rw [splice_get (by simp; omega), splice_get (by simp; omega)]
  simp only [Array.toList_setIfInBounds, List.length_cons]
  by_cases h1 : j < off + n
  · rw [if_neg (by omega), if_neg (by omega)]
    rw [List.getElem?_set_ne (by omega)]
  · by_cases h2 : j = off + n
    · subst h2
      rw [if_neg (by omega), if_pos (by omega), List.getElem?_set_self (by simp; omega)]
      simp
    · by_cases h3 : j < off + (n + 1) + l.length
      · rw [if_pos (by omega), if_pos (by omega), show j - (off + n) = (j - (off + (n + 1))) + 1 by omega]
        simp
      · rw [if_neg (by omega), if_neg (by omega), List.getElem?_set_ne (by omega)]
theorem laid (vs cells : Array Value) (off : Nat) (h : off + vs.size ≤ cells.size) :
 (vs.zipIdx.foldl (fun cs (p : Value × Nat) => cs.setIfInBounds (off + p.2) p.1) cells).toList = splice cells.toList off vs.toList := by
 rw [← Array.foldl_toList, Array.toList_zipIdx]
 exact laid_list vs.toList 0 off cells (by simpa using h)
theorem relL_splice {cs xs : List AV} {vs us : List Value} (h : relL c cs vs) (hx : relL c xs us) {k : Nat} (hk : k + xs.length ≤ cs.length) : relL c (splice cs k xs) (splice vs k us) := by
 have h1 := relL_length h
 have h2 := relL_length hx
 unfold splice
 rw [h2]
 exact relL_append (relL_append (relL_take h k) hx) (relL_drop h _)
theorem o_fill {place : Nat → Option (Nat × Nat)} : ∀ {ps : List (Nat × Nat)} {xs : List AV} {parts : List (Nat × Value)} {z cs : List AV} {zv : Array Value}, fill z ps xs = some cs → relL c z zv.toList →
 parts.map (fun p => place p.1) = ps.map some → relL c xs (parts.map (·.2)) → ∃ cv : Array Value, Instr.fill place zv parts = some cv ∧ relL c cs cv.toList
 | [], [], parts, z, cs, zv, h, hz, hp, hx => by
  cases parts with
  | nil => simp only [fill, Option.some.injEq] at h; subst h; exact ⟨zv, rfl, hz⟩
  | cons p parts => simp at hp
 | [], _ :: _, _, _, _, _, h, _, _, _ => by simp [fill] at h
 | _ :: _, [], _, _, _, _, h, _, _, _ => by simp [fill] at h
 | (off, n) :: ps, x :: xs, parts, z, cs, zv, h, hz, hp, hx => by
  cases parts with
  | nil => simp at hp
  | cons p parts =>
   obtain ⟨i, v⟩ := p
   simp only [List.map_cons, List.cons.injEq] at hp
   obtain ⟨hp1, hp⟩ := hp
   simp only [List.map_cons] at hx
   rw [relL_cons] at hx
   obtain ⟨hx1, hx⟩ := hx
   simp only [fill] at h
   split at h
   · rename_i hb
     simp only [Bool.and_eq_true] at hb
     obtain ⟨⟨b1, b2⟩, b3⟩ := hb
     have b1 := Nat.eq_of_beq_eq_true b1
     have b2 := Nat.le_of_ble_eq_true b2
     have hc := relL_cells hx1 b3
     have hlen := relL_length hc
     have hzl := relL_length hz
     simp only [Array.length_toList] at hlen hzl
     have hl := laid v.cells zv off (by omega)
     have := relL_splice hz hc (k := off) (by omega)
     rw [← hl] at this
     obtain ⟨cv, e1, e2⟩ := o_fill h this hp hx
     refine ⟨cv, ?_, e2⟩
     simp only [Instr.fill, hp1]
     rw [if_neg (by simp; omega)]
     exact e1
   · cases h
theorem o_build {t : TypeId} {fs : Array Field} {i : TypeInfo} {z : Value} {zs : List AV} (hu : P.underlying t = some (.struct fs)) (hi : P.info? t = some i) (hz : i.zero = some z) (hall : fs.toList.all (fun f => (P.info? f.type).isSome) = true)
 (hc : compCells z.cells.toList = some zs) : ∀ {parts : List (Nat × Operand)} {ps : List (Nat × Nat)} {ops : List Operand} (hp : partsOf P fs parts = some (ps, ops)) {ρ : Operand → Value} {xs cs : List AV}
 (hx : relL c xs (ops.map ρ)) (hf : fill zs ps xs = some cs) {w : World}, ∃ cv : Array Value, (Instr.build t (parts.map fun (i, x) => (i, ρ x)).toArray).run P w = .ok (.agg cv) w ∧ relL c cs cv.toList := by
 intro parts ps ops hp ρ xs cs hx hf w
 have key : ∀ (parts : List (Nat × Operand)) (ps : List (Nat × Nat)) (ops : List Operand), partsOf P fs parts = some (ps, ops) →
  ops = parts.map (·.2) ∧ (parts.map fun p => (fs.map fun f => (f.offset, P.cellsOf f.type))[p.1]?) = ps.map some := by
  intro parts
  induction parts with
  | nil => intro ps ops h; simp only [partsOf, Option.some.injEq, Prod.mk.injEq] at h; obtain ⟨rfl, rfl⟩ := h; simp
  | cons p parts ih =>
   intro ps ops h
   obtain ⟨k, x⟩ := p
   simp only [partsOf] at h
   split at h
   · rename_i f hf
     split at h
     · rename_i fi ps' xs' hfi hrec
       cases h
       obtain ⟨e1, e2⟩ := ih _ _ hrec
       refine ⟨by simp [e1], ?_⟩
       simp only [List.map_cons, e2, List.cons.injEq, and_true]
       simp [hf, Program.cellsOf, hfi]
     · cases h
   · cases h
 obtain ⟨rfl, hpl⟩ := key _ _ _ hp
 have hm : ∀ (l : List Field), l.all (fun f => (P.info? f.type).isSome) = true → l.mapM (fun f => (P.info? f.type).map fun i => (f.offset, i.size)) = some (l.map fun f => (f.offset, P.cellsOf f.type)) := by
  intro l
  induction l with
  | nil => intro _; rfl
  | cons f l ih =>
   intro h
   simp only [List.all_cons, Bool.and_eq_true] at h
   obtain ⟨i, hi⟩ := Option.isSome_iff_exists.1 h.1
   simp [List.mapM_cons, hi, ih h.2, Program.cellsOf]
 obtain ⟨cv, e1, e2⟩ := o_fill (place := fun k => (fs.map fun f => (f.offset, P.cellsOf f.type))[k]?) (parts := parts.map fun (i, x) => (i, ρ x)) hf (compCells_rel (c := c) hc).1 (by simpa [Function.comp_def] using hpl)
  (by simpa [Function.comp_def] using hx)
 refine ⟨cv, run_build w t _ cv ?_, e2⟩
 unfold Program.built
 simp only [hi, hu, hz, hm _ hall]
 simp only [List.getElem?_toArray]
 rw [← e1]
 congr 1
 funext k
 simp
theorem o_buildA {t e : TypeId} {n : Nat} {i ie : TypeInfo} {z : Value} {zs : List AV} (hu : P.underlying t = some (.array n e)) (hi : P.info? t = some i) (hz : i.zero = some z) (he : P.info? e = some ie)
 (hc : compCells z.cells.toList = some zs) {parts : List (Nat × Operand)} {ρ : Operand → Value} {xs cs : List AV}
 (hx : relL c xs ((parts.map (·.2)).map ρ)) (hf : fill zs (parts.map fun p => (p.1 * ie.size, ie.size)) xs = some cs) {w : World} :
 ∃ cv : Array Value, (Instr.build t (parts.map fun (i, x) => (i, ρ x)).toArray).run P w = .ok (.agg cv) w ∧ relL c cs cv.toList := by
 obtain ⟨cv, e1, e2⟩ := o_fill (place := fun k => some (k * ie.size, ie.size)) (parts := parts.map fun (i, x) => (i, ρ x)) hf (compCells_rel (c := c) hc).1 (by simp [Function.comp_def])
  (by simpa [Function.comp_def] using hx)
 refine ⟨cv, run_build w t _ cv ?_, e2⟩
 unfold Program.built
 simp only [hi, hu, hz, he]
 exact e1
theorem flat_made {zs : List DV} {z : Array Value} {sz : Nat} (hc : compCellsD z.toList = some zs) (hs : z.size = sz) (h0 : 0 < sz) (n : Nat) : Flat c sz (List.replicate n zs) (madeCells z (n * sz)).toList := by
 obtain ⟨h1, h2⟩ := compCellsD_rel (c := c) hc
 refine ⟨by simp [size_madeCells], fun r row hr => ?_⟩
 obtain ⟨hr1, hr2⟩ := List.getElem?_eq_some_iff.1 hr
 simp only [List.getElem_replicate] at hr2
 subst hr2
 simp only [List.length_replicate] at hr1
 refine ⟨by simpa [hs] using h1, fun k x hk => ?_⟩
 obtain ⟨v, hv, hrel⟩ := h2 k x hk
 have hk' : k < sz := by
  have := (List.getElem?_eq_some_iff.1 hv).1
  simpa [hs] using this
 have hlt : r * sz + k < n * sz := by
  have : (r + 1) * sz ≤ n * sz := Nat.mul_le_mul_right sz hr1
  rw [Nat.succ_mul] at this
  omega
 refine ⟨v, ?_, hrel⟩
 simp only [madeCells, Array.getElem?_toList, Array.getElem?_map]
 rw [Array.getElem?_range]
 simp only [hlt, if_true, Option.map_some]
 rw [hs, show (r * sz + k) % sz = k by rw [Nat.mul_comm, Nat.mul_add_mod, Nat.mod_eq_of_lt hk']]
 have hv' : z[k]? = some v := by simpa using hv
 rw [getElem!_def, hv']
theorem o_mks (ok : Ok c) {t e : TypeId} {i : TypeInfo} {z : Value} {zs : List DV} (hu : P.underlying t = some (.slice e)) (hi : P.info? e = some i) (hz : i.zero = some z) (hc : compCellsD z.cells.toList = some zs)
 (hs : z.cells.size = i.size) (h0 : 0 < i.size) (hb0 : 0 < i.bytes) {k k' : IntKind} {n : Nat} (hroom : room n i.bytes = true) :
 ∃ c' v, (Instr.makeSlice t (.int k n) (.int k' n)).run P c.w = .ok v c'.w ∧ relA c' (.osl c.h.length 0 0 n) v ∧ c'.h = c.h ++ [⟨.mine, e, .arr false 0 i.size (List.replicate n zs)⟩] ∧ Ok c' ∧ Goes c c' := by
 have hroom := room_le hroom
 have hn : n ≤ 140737488355328 := Nat.le_trans (Nat.le_mul_of_pos_right _ hb0) hroom
 have hrun := run_make (P := P) c.w t e i z hu hi hz k k' n n (by omega) (Int.le_refl _) (by rw [← Int.natCast_mul]; rw [Nat.mul_comm] at hroom; omega) (by omega)
 simp only [Int.toNat_natCast] at hrun
 have hflat := flat_made (c := c) hc hs h0 n
 have := s_newarr (c := c) ok (nl := false) (sz := i.size) (rows := List.replicate n zs) (vs := (madeCells z.cells (n * i.size)).toList) (us := (madeCells z.cells (n * i.size)).toList) (e := e)
  (fz := (0, 0)) (cap := n) (by simp) hflat (List.prefix_refl _) (fun k hk => by simp) (by simp) (by simp [size_madeCells])
 rw [Array.toArray_toList, List.length_replicate] at this
 exact ⟨_, _, hrun, this.2, rfl, this.1, goes_more ok _ _ _ _⟩
theorem flat_set {sz : Nat} {rows : List (List DV)} {us : List Value} (h : Flat c sz rows us) {k : Nat} (hk : k < rows.length) {r : List DV} {vs : List Value} (hr : r.length = sz) (hv : relL c (r.map .d) vs) :
 Flat c sz (rows.set k r) (splice us (k * sz) vs) := by
 have hl := relL_length hv
 simp only [List.length_map] at hl
 have hin : k * sz + vs.length ≤ us.length := by
  rw [h.1, hl, hr]
  have := Nat.mul_le_mul_right sz (show k + 1 ≤ rows.length from hk)
  rw [Nat.succ_mul] at this
  exact this
 refine ⟨by rw [splice_length hin, h.1]; simp, fun j row hj => ?_⟩
 rcases getElem?_set_cases hj with ⟨rfl, rfl⟩ | ⟨hne, hj⟩
 · refine ⟨hr, fun m x hm => ?_⟩
   obtain ⟨v, e1, e2⟩ := relL_get hv m (.d x) (by simp [hm])
   refine ⟨v, ?_, by simpa only [relA] using e2⟩
   have := (List.getElem?_eq_some_iff.1 hm).1
   rw [splice_get hin, if_pos (by omega), show j * sz + m - j * sz = m by omega]
   exact e1
 · obtain ⟨e1, e2⟩ := h.2 j row hj
   refine ⟨e1, fun m x hm => ?_⟩
   obtain ⟨v, e3, e4⟩ := e2 m x hm
   refine ⟨v, ?_, e4⟩
   have hm' := (List.getElem?_eq_some_iff.1 hm).1
   rw [splice_get hin, if_neg ?_]
   · exact e3
   · rcases Nat.lt_or_gt_of_ne hne with hlt | hlt
     · have := Nat.mul_le_mul_right sz (show j + 1 ≤ k from hlt)
       rw [Nat.succ_mul] at this
       omega
     · have := Nat.mul_le_mul_right sz (show k + 1 ≤ j from hlt)
       rw [Nat.succ_mul] at this
       omega
theorem o_fillRows {sz : Nat} : ∀ {ps : List Nat} {xs : List AV} {parts : List (Nat × Value)} {rows rows' : List (List DV)} {zv : Array Value}, fillRows sz rows ps xs = some rows' → Flat c sz rows zv.toList →
 parts.map (·.1) = ps → relL c xs (parts.map (·.2)) → ∃ cv : Array Value, Instr.fill (fun i => some (i * sz, sz)) zv parts = some cv ∧ Flat c sz rows' cv.toList ∧ rows'.length = rows.length
 | [], [], parts, rows, rows', zv, h, hz, hp, hx => by
  cases parts with
  | nil => simp only [fillRows, Option.some.injEq] at h; subst h; exact ⟨zv, rfl, hz, rfl⟩
  | cons p parts => simp at hp
 | [], _ :: _, _, _, _, _, h, _, _, _ => by simp [fillRows] at h
 | _ :: _, [], _, _, _, _, h, _, _, _ => by simp [fillRows] at h
 | k :: ps, x :: xs, parts, rows, rows', zv, h, hz, hp, hx => by
  cases parts with
  | nil => simp at hp
  | cons p parts =>
   obtain ⟨i, v⟩ := p
   simp only [List.map_cons, List.cons.injEq] at hp
   obtain ⟨rfl, hp⟩ := hp
   simp only [List.map_cons] at hx
   rw [relL_cons] at hx
   obtain ⟨hx1, hx⟩ := hx
   simp only [fillRows] at h
   split at h
   · rename_i r hr
     split at h
     · rename_i hb
       simp only [Bool.and_eq_true] at hb
       have b1 := Nat.eq_of_beq_eq_true hb.1
       have b2 : i < rows.length := Nat.le_of_ble_eq_true hb.2
       have hd := deepRow_eq hr
       have hc := relL_cells hx1 (by rw [hd]; exact all_celly_d r)
       rw [hd] at hc
       have hlen := relL_length hc
       simp only [Array.length_toList, List.length_map] at hlen
       have hzl := hz.1
       simp only [Array.length_toList] at hzl
       have hin : i * sz + v.cells.size ≤ zv.size := by
        have := Nat.mul_le_mul_right sz (show i + 1 ≤ rows.length from b2)
        rw [Nat.succ_mul] at this
        omega
       have hl := laid v.cells zv (i * sz) hin
       have := flat_set hz b2 b1 hc
       rw [← hl] at this
       obtain ⟨cv, e1, e2, e3⟩ := o_fillRows h this hp hx
       refine ⟨cv, ?_, e2, by simpa using e3⟩
       simp only [Instr.fill]
       rw [if_neg (by simp; omega)]
       exact e1
     · cases h
   · cases h
theorem o_bsl (ok : Ok c) {t e : TypeId} {i : TypeInfo} {z : Value} {zs : List DV} (hu : P.underlying t = some (.slice e)) (hi : P.info? e = some i) (hz : i.zero = some z) (hc : compCellsD z.cells.toList = some zs)
 (hs : z.cells.size = i.size) (h0 : 0 < i.size) {n : Nat} (hn : n * i.size ≤ 16777216) {parts : List (Nat × Operand)} {ρ : Operand → Value} {xs : List AV} {rows : List (List DV)}
 (hx : relL c xs ((parts.map (·.2)).map ρ)) (hf : fillRows i.size (List.replicate n zs) (parts.map (·.1)) xs = some rows) :
 ∃ c' v, (Instr.buildSlice t n (parts.map fun (i, x) => (i, ρ x)).toArray).run P c.w = .ok v c'.w ∧ relA c' (.osl c.h.length 0 0 n) v ∧ c'.h = c.h ++ [⟨.mine, e, .arr false 0 i.size rows⟩] ∧ Ok c' ∧ Goes c c' := by
 have hflat := flat_made (c := c) hc hs h0 n
 obtain ⟨cv, e1, e2, e3⟩ := o_fillRows (parts := parts.map fun (i, x) => (i, ρ x)) hf hflat (by simp [Function.comp_def]) (by simpa [Function.comp_def] using hx)
 simp only [List.length_replicate] at e3
 have hsz : cv.size = n * i.size := by have := e2.1; simpa [e3] using this
 have := s_newarr (c := c) ok (nl := false) (sz := i.size) (rows := rows) (vs := cv.toList) (us := cv.toList) (e := e)
  (fz := (0, 0)) (cap := n) (by simp) e2 (List.prefix_refl _) (fun k hk => by simp) (by omega) (by simp [hsz])
 rw [Array.toArray_toList, e3] at this
 refine ⟨_, .slice (some ⟨c.w.heap.size, 0, none⟩) n n, ?_, this.2, rfl, this.1, goes_more ok _ _ _ _⟩
 have hn' : ¬ (2 ^ 24 < n * i.size) := by omega
 simp only [madeCells] at e1
 by_cases hz0 : n * i.size = 0
 · rw [hz0] at e1
   simp [Instr.buildSlice, run_underlying hu, sizeOf, typeInfo, hi, hn', hz0, newRow]
   have hr : ∀ f : Nat → Value, Array.map f (Array.range 0) = #[] := fun f => by simp
   rw [hr] at e1 ⊢
   simp [e1]
   rfl
 · simp [Instr.buildSlice, run_underlying hu, sizeOf, typeInfo, hi, hn', hz0, newRow, zeroValue, hz, e1]
   rfl
theorem o_fld {cs : List AV} {vs : Array Value} (h : relL c cs vs.toList) {t : TypeId} {fs : Array Field} {k : Nat} {f : Field} {m : Option Nat} (hu : P.underlying t = some (.struct fs)) (hf : fs[k]? = some f) (hm : loadN P f.type = some m)
 {x : AV} (hp : part cs f.offset m = some x) {w : World} : ∃ v, (Instr.field t (.agg vs) k).run P w = .ok v w ∧ relA c x v := by
 obtain ⟨v, hv, hr⟩ := part_rel (P := P) h hm hp (w := w)
 refine ⟨v, ?_, hr⟩
 simp only [Instr.field, Sem.run_bind, run_underlying hu, Result.andThen, hf, asAgg, Sem.run_pure, hv]
theorem o_ext {vs : List AV} {v : Value} (h : relA c (.tup vs) v) {k : Nat} {x : AV} (hx : vs[k]? = some x) {w : World} : ∃ u, (Instr.extract v k).run P w = .ok u w ∧ relA c x u := by
 simp only [relA] at h
 obtain ⟨us, rfl, h⟩ := h
 obtain ⟨u, hu, hr⟩ := relL_get h k x hx
 have hu : us[k]? = some u := by simpa using hu
 exact ⟨u, by simp [Instr.extract, hu], hr⟩
theorem rel_tup2 {x y : AV} {v u : Value} (h1 : relA c x v) (h2 : relA c y u) : relA c (.tup [x, y]) (.tuple #[v, u]) := by
 simp only [relA]
 exact ⟨_, rfl, relL_cons.2 ⟨h1, relL_cons.2 ⟨h2, rfl⟩⟩⟩
theorem o_tas {x : AV} {v : Value} (h : relA c x v) {xT t : TypeId} {d : TypeDesc} {i : TypeInfo} {z : Value} {za : AV} (hu : P.underlying t = some d) (hd : notIface d = true) (hi : P.info? t = some i) (hz : i.zero = some z)
 (hc : compZero z = some za) {w : World} :
 (∀ u, x = .ifc t u → ∃ r, (Instr.typeAssert v xT t false).run P w = .ok r w ∧ relA c u r) ∧
 (∀ u, x = .ifc t u → ∃ r, (Instr.typeAssert v xT t true).run P w = .ok r w ∧ relA c (.tup [u, B true]) r) ∧
 ((x = .d .nili ∨ ∃ t' u, x = .ifc t' u ∧ t' ≠ t) → ∃ r, (Instr.typeAssert v xT t true).run P w = .ok r w ∧ relA c (.tup [za, B false]) r) := by
 have hzr := compZero_rel (c := c) hc
 have hB : ∀ b : Bool, relA c (B b) (.bool b) := fun b => by simp [relA, relD]
 refine ⟨fun u e => ?_, fun u e => ?_, fun e => ?_⟩
 · subst e
   simp only [relA] at h
   obtain ⟨r, rfl, hr⟩ := h
   refine ⟨r, ?_, hr⟩
   simp only [Instr.typeAssert, Sem.run_bind, run_underlying hu, Result.andThen]
   cases d <;> first | (simp; done) | cases hd
 · subst e
   simp only [relA] at h
   obtain ⟨r, rfl, hr⟩ := h
   refine ⟨_, ?_, rel_tup2 hr (hB true)⟩
   simp only [Instr.typeAssert, Sem.run_bind, run_underlying hu, Result.andThen]
   cases d <;> first | (simp; done) | cases hd
 · refine ⟨_, ?_, rel_tup2 hzr (hB false)⟩
   rcases e with rfl | ⟨t', u, rfl, hne⟩
   · simp only [relA, relD] at h
     subst h
     simp only [Instr.typeAssert, Sem.run_bind, run_underlying hu, Result.andThen]
     cases d <;> first | (simp [zeroValue, typeInfo, hi, hz]; done) | cases hd
   · simp only [relA] at h
     obtain ⟨r, rfl, hr⟩ := h
     simp only [Instr.typeAssert, Sem.run_bind, run_underlying hu, Result.andThen]
     cases d <;> first | (simp [zeroValue, typeInfo, hi, hz, hne]; done) | cases hd
theorem o_lens {s : List UInt8} {t ty : TypeId} (hu : P.underlying t = some .string) {w : World} : (Builtin.len_ #[t] ty #[.string ⟨s.toArray⟩]).run P w = .ok (.int .i64 s.length) w := by
 have hs : (ByteArray.mk s.toArray).size = s.length := by simp [ByteArray.size]
 simp [Builtin.len_, run_underlying hu, goInt, hs]
theorem o_len {x : AV} {v : Value} (h : relA c x v) {n : Int} (hn : lenA x = some n) {t e ty : TypeId} (hu : P.underlying t = some (.slice e)) {w : World} :
 (Builtin.len_ #[t] ty #[v]).run P w = .ok (.int .i64 n) w := by
 have : ∃ a m cap, v = .slice a m cap ∧ (m : Int) = n := by
  cases x with
  | d x =>
   cases x <;> simp only [lenA, Option.some.injEq, reduceCtorEq] at hn
   · simp only [relA, relD] at h; exact ⟨_, _, _, h, by simpa using hn⟩
   · simp only [relA, relD] at h; obtain ⟨a, cap, h, _⟩ := h; exact ⟨_, _, _, h, hn⟩
  | osl i g lo hi =>
   simp only [relA] at h
   obtain ⟨hlo, a, cap, _, _, _, _, _, _, h, _⟩ := h
   simp only [lenA, Option.some.injEq] at hn
   exact ⟨_, _, _, h, by omega⟩
  | _ => simp [lenA] at hn
 obtain ⟨a, m, cap, rfl, rfl⟩ := this
 simp [Builtin.len_, run_underlying hu, goInt]
theorem o_minL : ∀ {xs : List AV} {x r : AV} {v : Value} {vs : List Value}, minL x xs = some r → relA c x v → relL c xs vs → ∀ {w : World}, ∃ u, (vs.foldlM Builtin.min2 v).run P w = .ok u w ∧ relA c r u
 | [], x, r, v, vs, h, hx, hxs, w => by
  cases hxs
  unfold minL at h
  split at h
  · cases h; exact ⟨v, rfl, hx⟩
  · rename_i heq; cases heq
  · cases h
 | y :: xs, x, r, v, vs, h, hx, hxs, w => by
  cases vs with
  | nil => simp [relA.relL] at hxs
  | cons u vs =>
   rw [relL_cons] at hxs
   unfold minL at h
   split at h
   · rename_i heq; cases heq
   · rename_i k a k' b l heq
     cases heq
     split at h
     · rename_i hk
       have hk : k = k' := by simpa using hk
       subst hk
       simp only [relA, relD] at hx hxs
       obtain ⟨rfl, hxs⟩ := hxs
       subst hx
       obtain ⟨u', e1, e2⟩ := o_minL (v := .int k (imin a b)) h (by simp [relA, relD]) hxs (w := w)
       refine ⟨u', ?_, e2⟩
       simp only [List.foldlM_cons, Builtin.min2, Sem.run_bind, Sem.run_pure, Result.andThen]
       unfold imin at e1
       exact e1
     · cases h
   · cases h
theorem o_maxL : ∀ {xs : List AV} {x r : AV} {v : Value} {vs : List Value}, maxL x xs = some r → relA c x v → relL c xs vs → ∀ {w : World}, ∃ u, (vs.foldlM Builtin.max2 v).run P w = .ok u w ∧ relA c r u
 | [], x, r, v, vs, h, hx, hxs, w => by
  cases hxs
  unfold maxL at h
  split at h
  · cases h; exact ⟨v, rfl, hx⟩
  · rename_i heq; cases heq
  · cases h
 | y :: xs, x, r, v, vs, h, hx, hxs, w => by
  cases vs with
  | nil => simp [relA.relL] at hxs
  | cons u vs =>
   rw [relL_cons] at hxs
   unfold maxL at h
   split at h
   · rename_i heq; cases heq
   · rename_i k a k' b l heq
     cases heq
     split at h
     · rename_i hk
       have hk : k = k' := by simpa using hk
       subst hk
       simp only [relA, relD] at hx hxs
       obtain ⟨rfl, hxs⟩ := hxs
       subst hx
       obtain ⟨u', e1, e2⟩ := o_maxL (v := .int k (imax a b)) h (by simp [relA, relD]) hxs (w := w)
       refine ⟨u', ?_, e2⟩
       simp only [List.foldlM_cons, Builtin.max2, Sem.run_bind, Sem.run_pure, Result.andThen]
       unfold imax at e1
       exact e1
     · cases h
   · cases h
end
end Go.Proofs.YtlhajccbfapieaaGreatDoor.Ab
