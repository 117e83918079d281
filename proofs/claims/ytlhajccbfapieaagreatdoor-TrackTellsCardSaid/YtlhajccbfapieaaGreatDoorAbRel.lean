/- The interpreter's values and memory against the model's: the relation, and that it lasts. -/
import Derived.Test.YtlhajccbfapieaaGreatDoorAbDefs
import Derived.Test.YtlhajccbfapieaaGreatDoorAbSite
import Derived.Laws.World
import Derived.Calls
namespace Go.Proofs.YtlhajccbfapieaaGreatDoor.Ab
open Go
set_option linter.unusedVariables false
def csize (w : World) (b : Nat) : Nat := match w.heap[b]? with
 | some (.cells c _ _) => c.size
 | _ => 0
def isCells (w : World) (b : Nat) : Prop := ∃ c e fz, w.heap[b]? = some (.cells c e fz)
def isT (w : World) (b : Nat) (e : TypeId) : Prop := ∃ c fz, w.heap[b]? = some (.cells c e fz)
theorem isT.cells {w : World} {b : Nat} {e : TypeId} (h : isT w b e) : isCells w b := let ⟨c, fz, h⟩ := h; ⟨c, e, fz, h⟩
abbrev cel (w : World) (b o : Nat) : Option Value := w.cell? ⟨b, o, none⟩
theorem cel_eq {w : World} {b o : Nat} {c : Array Value} {e : TypeId} {fz : Nat × Nat} (h : w.heap[b]? = some (.cells c e fz)) : cel w b o = c[o]? := by
 simp [cel, World.cell?, h]
theorem cel_some_lt {w : World} {b o : Nat} {v : Value} (h : cel w b o = some v) : b < w.heap.size := by
 unfold cel World.cell? at h
 split at h
 · rename_i h1; exact (Array.getElem?_eq_some_iff.1 h1).1
 · cases h
theorem cel_csize {w : World} {b o : Nat} (hb : isCells w b) : o < csize w b ↔ ∃ v, cel w b o = some v := by
 obtain ⟨c, e, fz, h⟩ := hb
 rw [cel_eq h]
 simp only [csize, h]
 constructor
 · intro ho; exact ⟨c[o], by simp [ho]⟩
 · rintro ⟨v, hv⟩; exact (Array.getElem?_eq_some_iff.1 hv).1
theorem cel_heap {w w' : World} {b : Nat} (h : w'.heap[b]? = w.heap[b]?) (o : Nat) : cel w' b o = cel w b o := by
 simp [cel, World.cell?, h]
theorem csize_heap {w w' : World} {b : Nat} (h : w'.heap[b]? = w.heap[b]?) : csize w' b = csize w b := by
 simp [csize, h]
def relD (w : World) (Fb : Nat → Prop) : DV → Value → Prop
 | .bool b, v => v = .bool b
 | .int k n, v => v = .int k n
 | .str s, v => v = .string ⟨s.toArray⟩
 | .nilp, v => v = .pointer none
 | .nilsl, v => v = .slice none 0 0
 | .nilmap, v => v = .map none
 | .nilf, v => v = .nilFunc
 | .nili, v => v = .nilIface
 | .sl sz rows, v => ∃ a cap, v = .slice (some a) rows.length cap ∧ rows.length ≤ cap ∧ (rows = [] ∨ a.spot = none) ∧ relRows sz rows a.block a.off
where
 relRows (sz : Nat) : List (List DV) → Nat → Nat → Prop
  | [], _, _ => True
  | r :: rs, b, o => r.length = sz ∧ relCells r b o ∧ relRows sz rs b (o + sz)
 relCells : List DV → Nat → Nat → Prop
  | [], _, _ => True
  | c :: cs, b, o => (¬ Fb b ∧ ∃ v, w.cell? ⟨b, o, none⟩ = some v ∧ relD w Fb c v) ∧ relCells cs b (o + 1)
structure Stays (w : World) (Fb : Nat → Prop) (w' : World) (Fb' : Nat → Prop) : Prop where
 cell : ∀ b o v, ¬ Fb b → cel w b o = some v → ¬ Fb' b ∧ cel w' b o = some v
 size : ∀ b o v, ¬ Fb b → cel w b o = some v → csize w' b = csize w b
section
variable {w w' : World} {Fb Fb' : Nat → Prop}
mutual
theorem relD_stays (h : Stays w Fb w' Fb') : ∀ (x : DV) (v : Value), relD w Fb x v → relD w' Fb' x v
 | .bool _, _, hv | .int _ _, _, hv | .str _, _, hv | .nilp, _, hv | .nilsl, _, hv | .nilmap, _, hv | .nilf, _, hv | .nili, _, hv => by simpa [relD] using hv
 | .sl sz rows, v, hv => by
  simp only [relD] at hv ⊢
  obtain ⟨a, cap, e, hcap, hs, hr⟩ := hv
  exact ⟨a, cap, e, hcap, hs, relRows_stays h sz rows _ _ hr⟩
theorem relRows_stays (h : Stays w Fb w' Fb') (sz : Nat) : ∀ (rows : List (List DV)) (b o : Nat), relD.relRows w Fb sz rows b o → relD.relRows w' Fb' sz rows b o
 | [], _, _, _ => by simp [relD.relRows]
 | r :: rs, b, o, hv => by
  simp only [relD.relRows] at hv ⊢
  exact ⟨hv.1, relCells_stays h r b o hv.2.1, relRows_stays h sz rs b _ hv.2.2⟩
theorem relCells_stays (h : Stays w Fb w' Fb') : ∀ (cs : List DV) (b o : Nat), relD.relCells w Fb cs b o → relD.relCells w' Fb' cs b o
 | [], _, _, _ => by simp [relD.relCells]
 | c :: cs, b, o, hv => by
  simp only [relD.relCells] at hv ⊢
  obtain ⟨⟨hb, v, hc, hd⟩, hr⟩ := hv
  exact ⟨⟨(h.cell b o v hb hc).1, v, (h.cell b o v hb hc).2, relD_stays h c v hd⟩, relCells_stays h cs b _ hr⟩
end
end
theorem relCells_iff (w : World) (Fb : Nat → Prop) : ∀ (cs : List DV) (b o : Nat),
 relD.relCells w Fb cs b o ↔ ∀ k x, cs[k]? = some x → ¬ Fb b ∧ ∃ v, cel w b (o + k) = some v ∧ relD w Fb x v
 | [], _, _ => by simp [relD.relCells]
 | c :: cs, b, o => by
  simp only [relD.relCells]
  rw [relCells_iff w Fb cs b (o + 1)]
  constructor
  · rintro ⟨h0, h1⟩ k x hk
    cases k with
    | zero => simp at hk; subst hk; simpa using h0
    | succ k => simpa [Nat.add_assoc, Nat.add_comm 1 k] using h1 k x (by simpa using hk)
  · intro H
    refine ⟨by simpa using H 0 c rfl, fun k x hk => ?_⟩
    simpa [Nat.add_assoc, Nat.add_comm 1 k] using H (k + 1) x (by simpa using hk)
theorem relRows_iff (w : World) (Fb : Nat → Prop) (sz : Nat) : ∀ (rows : List (List DV)) (b o : Nat),
 relD.relRows w Fb sz rows b o ↔ ∀ r row, rows[r]? = some row → row.length = sz ∧ relD.relCells w Fb row b (o + r * sz)
 | [], _, _ => by simp [relD.relRows]
 | c :: cs, b, o => by
  simp only [relD.relRows]
  rw [relRows_iff w Fb sz cs b (o + sz)]
  constructor
  · rintro ⟨h0, h1, h2⟩ k x hk
    cases k with
    | zero => simp at hk; subst hk; simpa using ⟨h0, h1⟩
    | succ k =>
     have := h2 k x (by simpa using hk)
     rw [show o + sz + k * sz = o + (k + 1) * sz by rw [Nat.succ_mul]; omega] at this
     exact this
  · intro H
    refine ⟨(H 0 c rfl).1, by simpa using (H 0 c rfl).2, fun k x hk => ?_⟩
    have := H (k + 1) x (by simpa using hk)
    rw [show o + sz + k * sz = o + (k + 1) * sz by rw [Nat.succ_mul]; omega]
    exact this
structure Cx where
 w : World
 Fb : Nat → Prop
 h : Heap
 bs : List (Option (Nat × Nat))
def relA (c : Cx) : AV → Value → Prop
 | .d x, v => relD c.w c.Fb x v
 | .ptr i k, v => (∃ own ty cs, c.h[i]? = some ⟨own, ty, .fix cs⟩) ∧ ∃ b, c.bs[i]? = some (some (b, 0)) ∧ v = .pointer (some ⟨b, k, none⟩)
 | .ept i g r k, v => ∃ a own ty nl g' sz rows, v = .pointer (some a) ∧ c.h[i]? = some ⟨own, ty, .arr nl g' sz rows⟩ ∧ g ≤ g' ∧
  (g' = g → ∃ b o, c.bs[i]? = some (some (b, o)) ∧ a = ⟨b, o + r * sz + k, none⟩)
 | .rpt row k, v => ∃ b o, v = .pointer (some ⟨b, o + k, none⟩) ∧ relD.relCells c.w c.Fb row b o
 | .osl i g lo hi, v => lo ≤ hi ∧ ∃ a cap own ty nl g' sz rows, v = .slice a (hi - lo) cap ∧ c.h[i]? = some ⟨own, ty, .arr nl g' sz rows⟩ ∧ g ≤ g' ∧
  (g' = g → hi ≤ rows.length ∧
   ((nl = true ∧ rows = [] ∧ a = none ∧ cap = 0 ∧ c.bs[i]? = some none) ∨
     ∃ b o, c.bs[i]? = some (some (b, o)) ∧ a = some ⟨b, o + lo * sz, none⟩ ∧ hi - lo ≤ cap ∧ o + (lo + cap) * sz ≤ csize c.w b))
 | .agg cs, v => ∃ vs : Array Value, v = .agg vs ∧ relL c cs vs.toList
 | .tup cs, v => ∃ vs : Array Value, v = .tuple vs ∧ relL c cs vs.toList
 | .fn _ f a b, v => ∃ vs us : Array Value, v = .func (.func f) vs us ∧ relL c a vs.toList ∧ relL c b us.toList
 | .yld _ num i, v => ∃ own ty s caps b, c.h[i]? = some ⟨own, ty, .lp num s caps⟩ ∧ c.bs[i]? = some (some (b, 0)) ∧ v = .func (.yield b) #[] #[]
 | .ifc t x, v => ∃ u, v = .iface t u ∧ relA c x u
 | .junk, _ => True
where
 relL (c : Cx) : List AV → List Value → Prop
  | [], vs => vs = []
  | x :: xs, vs => ∃ u us, vs = u :: us ∧ relA c x u ∧ relL c xs us
abbrev relL := relA.relL
def Wr (c : Cx) (b : Nat) : Prop := ∃ (i o : Nat) (ty : Nat) (x : OB), c.h[i]? = some (⟨.mine, ty, x⟩ : Obj) ∧ c.bs[i]? = some (some (b, o))
def OB.goes (w w' : World) (p p' : Option (Option (Nat × Nat))) : OB → OB → Prop
 | .fix cs, .fix cs' => cs'.length = cs.length ∧ p' = p
 | .arr nl g sz rows, .arr nl' g' sz' rows' => g ≤ g' ∧ (g' = g → nl' = nl ∧ sz' = sz ∧ rows'.length = rows.length ∧ p' = p ∧ ∀ b o, p = some (some (b, o)) → csize w' b = csize w b)
 | .lp num _ _, .lp num' _ _ => num' = num ∧ p' = p
 | _, _ => False
structure Goes (c c' : Cx) : Prop where
 os : c'.w.os = c.w.os
 tape : c'.w.tape = c.w.tape
 output : c'.w.output = c.w.output
 size : c.w.heap.size ≤ c'.w.heap.size
 blk : ∀ b, b < c.w.heap.size → ¬ Wr c b → c'.w.heap[b]? = c.w.heap[b]?
 wr : ∀ b, b < c.w.heap.size → Wr c' b → Wr c b
 fb : ∀ b, b < c.w.heap.size → c'.Fb b → c.Fb b
 keep : ∀ b, c.Fb b → ¬ Wr c b → c'.Fb b
 place : ∀ (i b q : Nat), c'.bs[i]? = some (some (b, q)) → c.bs[i]? = some (some (b, q)) ∨ c.w.heap.size ≤ b
 obj : ∀ (i : Nat) o, c.h[i]? = some o → ∃ o', c'.h[i]? = some o' ∧ (o'.own = o.own ∨ o.own = .mine ∧ o'.own = .frozen) ∧
  o.b.goes c.w c'.w c.bs[i]? c'.bs[i]? o'.b
theorem OB.goes_refl (w : World) (p : Option (Option (Nat × Nat))) (b : OB) : b.goes w w p p b := by
 cases b <;> simp [OB.goes]
theorem OB.goes_trans {w w' w'' : World} {p p' p'' : Option (Option (Nat × Nat))} {a b d : OB} (h : a.goes w w' p p' b) (k : b.goes w' w'' p' p'' d) : a.goes w w'' p p'' d := by
 cases a <;> cases b <;> simp only [OB.goes] at h <;> cases d <;> simp only [OB.goes] at k ⊢
 · exact ⟨k.1.trans h.1, k.2.trans h.2⟩
 · obtain ⟨h1, h2⟩ := h
   obtain ⟨k1, k2⟩ := k
   refine ⟨Nat.le_trans h1 k1, fun e => ?_⟩
   obtain ⟨a1, a2, a3, a4, a5⟩ := h2 (by omega)
   obtain ⟨b1, b2, b3, b4, b5⟩ := k2 (by omega)
   exact ⟨b1.trans a1, b2.trans a2, b3.trans a3, b4.trans a4, fun b o hp => (b5 b o (a4.trans hp)).trans (a5 b o hp)⟩
 · exact ⟨k.1.trans h.1, k.2.trans h.2⟩
theorem Goes.refl (c : Cx) : Goes c c := ⟨rfl, rfl, rfl, Nat.le_refl _, fun _ _ _ => rfl, fun _ _ h => h, fun _ _ h => h, fun _ h _ => h, fun _ _ _ h => .inl h, fun _ o h => ⟨o, h, .inl rfl, OB.goes_refl _ _ _⟩⟩
theorem Goes.trans {c c' c'' : Cx} (hfb : ∀ b, c.Fb b → b < c.w.heap.size) (h : Goes c c') (k : Goes c' c'') : Goes c c'' := by
 refine ⟨k.os.trans h.os, k.tape.trans h.tape, k.output.trans h.output, Nat.le_trans h.size k.size, fun b hb hn => ?_, fun b hb hw => h.wr b hb (k.wr b (Nat.lt_of_lt_of_le hb h.size) hw),
  fun b hb hw => h.fb b hb (k.fb b (Nat.lt_of_lt_of_le hb h.size) hw), fun b hb hn => ?_, fun i b q hi => ?_, fun i o ho => ?_⟩
 · exact (k.blk b (Nat.lt_of_lt_of_le hb h.size) fun hw => hn (h.wr b hb hw)).trans (h.blk b hb hn)
 · exact k.keep b (h.keep b hb hn) fun hw => hn (h.wr b (hfb b hb) hw)
 · rcases k.place i b q hi with h1 | h1
   · exact h.place i b q h1
   · exact .inr (Nat.le_trans h.size h1)
 · obtain ⟨o', h1, h2, h4⟩ := h.obj i o ho
   obtain ⟨o'', k1, k2, k4⟩ := k.obj i o' h1
   refine ⟨o'', k1, ?_, OB.goes_trans h4 k4⟩
   rcases h2 with h2 | ⟨h2, h2'⟩ <;> rcases k2 with k2 | ⟨k2, k2'⟩
   · exact .inl (k2.trans h2)
   · exact .inr ⟨h2 ▸ k2, k2'⟩
   · exact .inr ⟨h2, k2.trans h2'⟩
   · rw [h2'] at k2; cases k2
def stIs (s : Nat) (r : Loop) : Prop :=
 (s = 0 → r.state = .ready ∧ r.pending = none) ∧ (s = 1 → r.state = .busy) ∧ (s = 2 → r.state = .done ∧ r.pending = some .ret) ∧ (∀ id, s = id + 7 → r.state = .done ∧ r.pending = some (.exit id))
def lpIs (w : World) (num s : Nat) (vs : List Value) (b : Nat) : Prop :=
 (s = 5 → w.heap[b]? = some (.deferred (some []))) ∧ (s ≠ 5 → s ≠ 6 → ∃ site r, theSite num = some site ∧ w.heap[b]? = some (.loop r) ∧ r.params = site.params ∧ r.assign = site.assign ∧ r.body = site.body ∧ stIs s r ∧
  (s ≠ 3 → site.n ≤ r.tmps.size ∧ vs = site.keep.map fun t => r.tmps.getD t undef))
theorem lpIs.heap {w w' : World} {num s : Nat} {vs : List Value} {b : Nat} (h : lpIs w num s vs b) (e : w'.heap[b]? = w.heap[b]?) : lpIs w' num s vs b := by
 unfold lpIs at h ⊢
 rw [e]; exact h
def relO (c : Cx) (i : Nat) (o : Obj) : Prop :=
 match o.b with
 | .fix cs => ∃ b, c.bs[i]? = some (some (b, 0)) ∧ isT c.w b o.ty ∧ csize c.w b = cs.length ∧ (∀ k, k < cs.length → c.w.frozen? ⟨b, k, none⟩ = false) ∧
  (o.own ≠ .frozen → c.Fb b) ∧ (o.own = .frozen → ¬ c.Fb b) ∧ (∀ (k : Nat) x, cs[k]? = some x → celly x = true ∧ ∃ v, cel c.w b k = some v ∧ relA c x v)
 | .arr nl _ sz rows => (nl = true ∧ rows = [] ∧ c.bs[i]? = some none) ∨
  (¬ (nl = true ∧ rows = []) ∧ ∃ b q, c.bs[i]? = some (some (b, q)) ∧ isT c.w b o.ty ∧ q + rows.length * sz ≤ csize c.w b ∧ (∀ k, k < csize c.w b → c.w.frozen? ⟨b, k, none⟩ = false) ∧
   (o.own ≠ .frozen → c.Fb b) ∧ (o.own = .frozen → ¬ c.Fb b) ∧
   ∀ (r : Nat) row, rows[r]? = some row → row.length = sz ∧ ∀ (k : Nat) x, row[k]? = some x → ∃ v, cel c.w b (q + r * sz + k) = some v ∧ relD c.w c.Fb x v)
 | .lp num s caps => ∃ b, c.bs[i]? = some (some (b, 0)) ∧ b < c.w.heap.size ∧ (o.own ≠ .frozen → c.Fb b) ∧ ∃ vs, relL c caps vs ∧ lpIs c.w num s vs b
structure Ok (c : Cx) : Prop where
 len : c.bs.length = c.h.length
 apart : ∀ (i j b q q' : Nat), c.bs[i]? = some (some (b, q)) → c.bs[j]? = some (some (b, q')) → i = j
 fbs : ∀ b, c.Fb b → b < c.w.heap.size
 obj : ∀ (i : Nat) o, c.h[i]? = some o → relO c i o
theorem Ok.wrFb {c : Cx} (h : Ok c) {b : Nat} (hw : Wr c b) : c.Fb b := by
 obtain ⟨i, q, ty, x, h1, h2⟩ := hw
 have := h.obj i _ h1
 unfold relO at this
 cases x with
 | fix cs =>
  obtain ⟨b', e, _, _, _, hf, _⟩ := this
  rw [e] at h2
  cases h2
  exact hf (by simp)
 | arr nl g sz rows =>
  rcases this with ⟨_, _, e⟩ | ⟨_, b', q', e, _, _, _, hf, _⟩
  · rw [e] at h2; cases h2
  · rw [e] at h2
    cases h2
    exact hf (by simp)
 | lp num s caps =>
  obtain ⟨b', e, _, hf, _⟩ := this
  rw [e] at h2
  cases h2
  exact hf (by simp)
theorem Goes.stays {c c' : Cx} (g : Goes c c') (ok : Ok c) : Stays c.w c.Fb c'.w c'.Fb where
 cell b o v hn hc := by
  have hb := cel_some_lt hc
  refine ⟨fun hf => hn (g.fb b hb hf), ?_⟩
  rw [cel_heap (g.blk b hb fun hw => hn (ok.wrFb hw))]
  exact hc
 size b o v hn hc := by
  have hb := cel_some_lt hc
  unfold csize
  rw [g.blk b hb fun hw => hn (ok.wrFb hw)]
section
variable {c c' : Cx}
mutual
theorem relA_goes (g : Goes c c') (ok : Ok c) : ∀ (x : AV) (v : Value), relA c x v → relA c' x v
 | .d x, v, h => by
  simp only [relA] at h ⊢
  exact relD_stays (g.stays ok) x v h
 | .ptr i k, v, h => by
  simp only [relA] at h ⊢
  obtain ⟨⟨own, ty, cs, ho⟩, b, hb, e⟩ := h
  obtain ⟨o', h1, _, h4⟩ := g.obj i _ ho
  obtain ⟨own', ty', b'⟩ := o'
  cases b' with
  | fix cs' => simp only [OB.goes] at h4; exact ⟨⟨own', ty', cs', h1⟩, b, by rw [h4.2]; exact hb, e⟩
  | arr => simp only [OB.goes] at h4
  | lp => simp only [OB.goes] at h4
 | .ept i gg r k, v, h => by
  simp only [relA] at h ⊢
  obtain ⟨a, own, ty, nl, g1, sz, rows, e, ho, hle, hh⟩ := h
  obtain ⟨o', h1, _, h4⟩ := g.obj i _ ho
  obtain ⟨own', ty', b'⟩ := o'
  cases b' with
  | fix cs' => simp only [OB.goes] at h4
  | lp => simp only [OB.goes] at h4
  | arr nl' g2 sz' rows' =>
   simp only [OB.goes] at h4
   refine ⟨a, own', ty', nl', g2, sz', rows', e, h1, Nat.le_trans hle h4.1, fun hg => ?_⟩
   obtain ⟨e1, e2, e3, e4, e5⟩ := h4.2 (by omega)
   obtain ⟨b, q, k1, k2⟩ := hh (by omega)
   exact ⟨b, q, by rw [e4]; exact k1, by rw [k2, e2]⟩
 | .rpt row k, v, h => by
  simp only [relA] at h ⊢
  obtain ⟨b, o, e, hr⟩ := h
  exact ⟨b, o, e, relCells_stays (g.stays ok) row b o hr⟩
 | .osl i gg lo hi, v, h => by
  simp only [relA] at h ⊢
  obtain ⟨hlo, a, cap, own, ty, nl, g1, sz, rows, e, ho, hle, hh⟩ := h
  obtain ⟨o', h1, _, h4⟩ := g.obj i _ ho
  obtain ⟨own', ty', b'⟩ := o'
  cases b' with
  | fix cs' => simp only [OB.goes] at h4
  | lp => simp only [OB.goes] at h4
  | arr nl' g2 sz' rows' =>
   simp only [OB.goes] at h4
   refine ⟨hlo, a, cap, own', ty', nl', g2, sz', rows', e, h1, Nat.le_trans hle h4.1, fun hg => ?_⟩
   obtain ⟨e1, e2, e3, e4, e5⟩ := h4.2 (by omega)
   obtain ⟨hi', hh⟩ := hh (by omega)
   refine ⟨by omega, ?_⟩
   rcases hh with ⟨a1, a2, a3, a4, a5⟩ | ⟨b, q, k1, k2, k3, k4⟩
   · exact .inl ⟨e1.trans a1, List.eq_nil_of_length_eq_zero (by rw [e3, a2]; rfl), a3, a4, by rw [e4]; exact a5⟩
   · exact .inr ⟨b, q, by rw [e4]; exact k1, by rw [k2, e2], k3, by rw [e5 b q k1, e2]; exact k4⟩
 | .agg cs, v, h => by
  simp only [relA] at h ⊢
  obtain ⟨vs, e, hr⟩ := h
  exact ⟨vs, e, relL_goes g ok cs _ hr⟩
 | .tup cs, v, h => by
  simp only [relA] at h ⊢
  obtain ⟨vs, e, hr⟩ := h
  exact ⟨vs, e, relL_goes g ok cs _ hr⟩
 | .fn _ f a b, v, h => by
  simp only [relA] at h ⊢
  obtain ⟨vs, us, e, h1, h2⟩ := h
  exact ⟨vs, us, e, relL_goes g ok a _ h1, relL_goes g ok b _ h2⟩
 | .yld m num i, v, h => by
  simp only [relA] at h ⊢
  obtain ⟨own, ty, s, caps, b, ho, hb, e⟩ := h
  obtain ⟨o', h1, _, h4⟩ := g.obj i _ ho
  obtain ⟨own', ty', b'⟩ := o'
  cases b' with
  | fix => simp only [OB.goes] at h4
  | arr => simp only [OB.goes] at h4
  | lp num' s' caps' => simp only [OB.goes] at h4; rw [h4.1] at h1; exact ⟨own', ty', s', caps', b, h1, by rw [h4.2]; exact hb, e⟩
 | .ifc t x, v, h => by
  simp only [relA] at h ⊢
  obtain ⟨u, e, hr⟩ := h
  exact ⟨u, e, relA_goes g ok x u hr⟩
 | .junk, _, _ => by simp only [relA]
theorem relL_goes (g : Goes c c') (ok : Ok c) : ∀ (xs : List AV) (vs : List Value), relL c xs vs → relL c' xs vs
 | [], vs, h => by simpa [relA.relL] using h
 | x :: xs, vs, h => by
  simp only [relA.relL] at h ⊢
  obtain ⟨u, us, e, h1, h2⟩ := h
  exact ⟨u, us, e, relA_goes g ok x u h1, relL_goes g ok xs us h2⟩
end
end
end Go.Proofs.YtlhajccbfapieaaGreatDoor.Ab
