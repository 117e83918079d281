/- The operations, as what is to be shown of them. -/
import Derived.Test.YtlhajccbfapieaaGreatDoorAbVc
namespace Go.Proofs.YtlhajccbfapieaaGreatDoor.Ab
open Go
set_option linter.unusedVariables false
set_option linter.unusedSimpArgs false
def vload (h : Heap) (n : Option Nat) (a : AV) (k : AV → Prop) : Prop := match a with
 | .ptr i c => match h[i]? with
  | some ⟨_, _, .fix cs⟩ => vq (part cs c n) k
  | _ => False
 | .ept i g r c => match h[i]? with
  | some ⟨_, _, .arr _ g' _ rows⟩ => vt (Nat.beq g g') (vo rows[r]? fun row => vq (partD row c n) k)
  | _ => False
 | .rpt row c => vq (partD row c n) k
 | _ => False
theorem vload_ok {h : Heap} {n : Option Nat} {a : AV} {k : AV → Prop} (e : vload h n a k) : ∃ x, loadA h n a = some x ∧ k x := by
 unfold vload at e
 split at e
 · split at e
   · rename_i h1; simp only [loadA, h1]; exact vq_ok e
   · exact e.elim
 · split at e
   · rename_i h1
     obtain ⟨hg, e⟩ := vt_ok e
     obtain ⟨row, hr, e⟩ := vo_ok e
     simp only [loadA, h1, hg, hr]
     exact vq_ok e
   · exact e.elim
 · simp only [loadA]; exact vq_ok e
 · exact e.elim
def vstore (h : Heap) (n : Nat) (x a : AV) (k : Heap → Prop) : Prop := match a with
 | .ptr i c => match h[i]? with
  | some ⟨.mine, ty, .fix cs⟩ => match Nat.beq (cellsOf x).length n && Nat.ble (c + n) cs.length && (cellsOf x).all celly with
   | true => k (h.set i ⟨.mine, ty, .fix (splice cs c (cellsOf x))⟩)
   | false => False
  | _ => False
 | .ept i g r c => match h[i]? with
  | some ⟨.mine, ty, .arr nl g' sz rows⟩ => vt (Nat.beq g g') (vo rows[r]? fun row => vq (deepRow (cellsOf x)) fun vs =>
   vt (Nat.beq vs.length n && Nat.ble (c + n) row.length) (k (h.set i ⟨.mine, ty, .arr nl g' sz (rows.set r (splice row c vs))⟩)))
  | _ => False
 | _ => False
theorem vstore_ok {h : Heap} {n : Nat} {x a : AV} {k : Heap → Prop} (e : vstore h n x a k) : ∃ h', storeA h n x a = some h' ∧ k h' := by
 unfold vstore at e
 split at e
 · split at e
   · rename_i h1
     split at e
     · rename_i h2; simp only [storeA, h1, h2]; exact ⟨_, rfl, e⟩
     · exact e.elim
   · exact e.elim
 · split at e
   · rename_i h1
     obtain ⟨hg, e⟩ := vt_ok e
     obtain ⟨row, hr, e⟩ := vo_ok e
     obtain ⟨vs, hv, e⟩ := vq_ok e
     obtain ⟨hl, e⟩ := vt_ok e
     simp only [storeA, h1, hg, hr, hv, hl]
     exact ⟨_, rfl, e⟩
   · exact e.elim
 · exact e.elim
def visNil (h : Heap) (x : AV) (k : Bool → Prop) : Prop := match x with
 | .osl i g _ _ => match h[i]? with
  | some ⟨_, _, .arr nl g' _ rows⟩ => vt (Nat.beq g g') (match nl with
   | false => k false
   | true => vb rows.isEmpty k)
  | _ => False
 | x => vq (isNil h x) k
theorem visNil_ok {h : Heap} {x : AV} {k : Bool → Prop} (e : visNil h x k) : ∃ b, isNil h x = some b ∧ k b := by
 unfold visNil at e
 split at e
 · split at e
   · rename_i nl g' _ rows h1
     obtain ⟨hg, e⟩ := vt_ok e
     cases nl
     · exact ⟨false, by simp [isNil, h1, hg], e⟩
     · simp only at e
       rw [vb_eq] at e
       exact ⟨_, by cases rows <;> simp [isNil, h1, hg], e⟩
   · exact e.elim
 · exact vq_ok e
def vbinI (op : BinOp) (k : IntKind) (a b : Int) (K : DV → Prop) : Prop := match op with
 | .quo => vf (iz b) (K (.int k (iquo k a b)))
 | .rem => vf (iz b) (K (.int k (irem a b)))
 | op => vq (binI op k a b) K
theorem vbinI_ok {op : BinOp} {k : IntKind} {a b : Int} {K : DV → Prop} (e : vbinI op k a b K) : ∃ x, binI op k a b = some x ∧ K x := by
 unfold vbinI at e
 split at e
 · obtain ⟨h1, e⟩ := vf_ok e; exact ⟨_, by simp only [binI, h1], e⟩
 · obtain ⟨h1, e⟩ := vf_ok e; exact ⟨_, by simp only [binI, h1], e⟩
 · exact vq_ok e
def vbinS (op : BinOp) (a b : List UInt8) (K : DV → Prop) : Prop := match op with
 | .add => vt (roomS (a.length + b.length)) (K (.str (a ++ b)))
 | op => vq (binS op a b) K
theorem vbinS_ok {op : BinOp} {a b : List UInt8} {K : DV → Prop} (e : vbinS op a b K) : ∃ x, binS op a b = some x ∧ K x := by
 unfold vbinS at e
 split at e
 · obtain ⟨h1, e⟩ := vt_ok e; exact ⟨_, by simp only [binS, h1], e⟩
 · exact vq_ok e
def vshift (op : BinOp) (k : IntKind) (a b : Int) (K : DV → Prop) : Prop := vt (decide (0 ≤ b)) (match op with
 | .shl => K (.int k (ishl k a b.toNat))
 | .shr => K (.int k (ishr k a b.toNat))
 | _ => False)
theorem vshift_ok {op : BinOp} {k : IntKind} {a b : Int} {K : DV → Prop} (e : vshift op k a b K) : ∃ x, shiftI op k a b = some x ∧ K x := by
 unfold vshift at e
 obtain ⟨h0, e⟩ := vt_ok e
 obtain ⟨n, rfl⟩ : ∃ n : Nat, b = n := ⟨b.toNat, by simp at h0; omega⟩
 split at e
 · exact ⟨_, rfl, e⟩
 · exact ⟨_, rfl, e⟩
 · exact e.elim
def vnilEq (h : Heap) (k : Nat) (x y : AV) (K : Bool → Prop) : Prop := match Nat.beq (nilKind x) k && Nat.beq (nilKind y) k with
 | true => match litNil x, litNil y with
  | true, _ => visNil h y K
  | false, true => visNil h x K
  | false, false => vq (sameP k x y) K
 | false => False
theorem vnilEq_ok {h : Heap} {k : Nat} {x y : AV} {K : Bool → Prop} (e : vnilEq h k x y K) : ∃ b, eqA h (.nil k) x y = some b ∧ K b := by
 unfold vnilEq at e
 split at e
 · rename_i h1
   have key : (eqA h (.nil k) x y) = match litNil x, litNil y with
    | true, _ => isNil h y
    | false, true => isNil h x
    | false, false => sameP k x y := by
    unfold eqA
    simp only [h1]
    cases litNil x <;> cases litNil y <;> rfl
   rw [key]
   split at e
   · exact visNil_ok e
   · exact visNil_ok e
   · exact vq_ok e
 · exact e.elim
def veqA (h : Heap) (q : EqK) (x y : AV) (K : Bool → Prop) : Prop := match q with
 | .nil k => vnilEq h k x y K
 | q => vq (eqA h q x y) K
theorem veqA_ok {h : Heap} {q : EqK} {x y : AV} {K : Bool → Prop} (e : veqA h q x y K) : ∃ b, eqA h q x y = some b ∧ K b := by
 unfold veqA at e
 split at e
 · exact vnilEq_ok e
 · exact vq_ok e
def vbinE (h : Heap) (op : BinOp) (q : EqK) (x y : AV) (K : AV → Prop) : Prop := match op with
 | .eql => veqA h q x y fun b => K (.d (.bool b))
 | .neq => veqA h q x y fun b => K (.d (.bool (!b)))
 | _ => False
theorem vbinE_ok {h : Heap} {op : BinOp} {q : EqK} {x y : AV} {K : AV → Prop} (e : vbinE h op q x y K) : ∃ b, binE h op q x y = some b ∧ K b := by
 unfold vbinE at e
 split at e
 · obtain ⟨b, h1, e⟩ := veqA_ok e; exact ⟨_, by simp [binE, h1], e⟩
 · obtain ⟨b, h1, e⟩ := veqA_ok e; exact ⟨_, by simp [binE, h1], e⟩
 · exact e.elim
def vbin (h : Heap) (op : BinOp) (q : EqK) (x y : AV) (K : AV → Prop) : Prop := match x, y with
 | .d (.int k a), .d (.int k' b) => match isShift op with
  | true => vshift op k a b fun v => K (.d v)
  | false => match decide (k = k') with
   | true => vbinI op k a b fun v => K (.d v)
   | false => False
 | .d (.str a), .d (.str b) => vbinS op a b fun v => K (.d v)
 | x, y => vbinE h op q x y K
theorem vbin_ok {h : Heap} {op : BinOp} {q : EqK} {x y : AV} {K : AV → Prop} (e : vbin h op q x y K) : ∃ b, binA h op q x y = some b ∧ K b := by
 unfold vbin at e
 split at e
 · split at e
   · rename_i h1; obtain ⟨v, h2, e⟩ := vshift_ok e; exact ⟨_, by simp [binA, h1, h2], e⟩
   · rename_i h1
     split at e
     · rename_i h3; obtain ⟨v, h2, e⟩ := vbinI_ok e; exact ⟨_, by simp only [binA, h1, h3, h2, Option.map_some], e⟩
     · exact e.elim
 · obtain ⟨v, h2, e⟩ := vbinS_ok e; exact ⟨_, by simp [binA, h2], e⟩
 · rename_i n1 n2
   have : binA h op q x y = binE h op q x y := by
    unfold binA
    split
    · exact (n1 _ _ _ _ rfl rfl).elim
    · exact (n2 _ _ rfl rfl).elim
    · rfl
   rw [this]
   exact vbinE_ok e
def vrows (h : Heap) (sz : Nat) (x : AV) (K : List (List DV) → Prop) : Prop := match x with
 | .osl i g lo hi => match h[i]? with
  | some ⟨_, _, .arr _ g' sz' rows⟩ => vt (Nat.beq g g') (vt (Nat.beq sz sz') (K ((rows.take hi).drop lo)))
  | _ => False
 | x => vq (rowsOf h sz x) K
theorem vrows_ok {h : Heap} {sz : Nat} {x : AV} {K : List (List DV) → Prop} (e : vrows h sz x K) : ∃ b, rowsOf h sz x = some b ∧ K b := by
 unfold vrows at e
 split at e
 · split at e
   · rename_i h1
     obtain ⟨hg, e⟩ := vt_ok e
     obtain ⟨hs, e⟩ := vt_ok e
     exact ⟨_, by simp [rowsOf, h1, hg, hs], e⟩
   · exact e.elim
 · exact vq_ok e
def vmore (h : Heap) (sz : Nat) (x : AV) (K : List (List DV) → Prop) : Prop := match x with
 | .d (.str s) => match Nat.beq sz 1 with
  | true => K (s.map byteRow)
  | false => False
 | x => vrows h sz x K
theorem vmore_ok {h : Heap} {sz : Nat} {x : AV} {K : List (List DV) → Prop} (e : vmore h sz x K) : ∃ b, moreOf h sz x = some b ∧ K b := by
 unfold vmore at e
 split at e
 · split at e
   · rename_i h1; exact ⟨_, by simp only [moreOf, h1], e⟩
   · exact e.elim
 · rename_i n1
   have : moreOf h sz x = rowsOf h sz x := by
    unfold moreOf
    split
    · exact (n1 _ rfl).elim
    · rfl
   rw [this]
   exact vrows_ok e
def vapp (e sz bytes : Nat) (h : Heap) (more : List (List DV)) (x : AV) (K : AV → Heap → Prop) : Prop := match x with
 | .d .nilsl => vt (room more.length bytes) (K (.osl h.length 0 0 more.length) (h ++ [⟨.mine, e, .arr true 0 sz more⟩]))
 | .osl i g lo hi => match h[i]? with
  | some ⟨.mine, ty, .arr nl g' sz' rows⟩ => vt (Nat.beq g g') (vt (Nat.beq lo 0 && Nat.beq sz sz' && Nat.beq e ty) (vt (ieq hi rows.length) (vt (room (rows.length + more.length) bytes)
   (K (.osl i (g + 1) 0 (rows.length + more.length)) (h.set i ⟨.mine, e, .arr nl (g + 1) sz (rows ++ more)⟩)))))
  | _ => False
 | _ => False
theorem vapp_ok {e sz bytes : Nat} {h : Heap} {more : List (List DV)} {x : AV} {K : AV → Heap → Prop} (p : vapp e sz bytes h more x K) : ∃ v h', appA e sz bytes h more x = some (v, h') ∧ K v h' := by
 unfold vapp at p
 split at p
 · obtain ⟨h1, p⟩ := vt_ok p; exact ⟨_, _, by simp only [appA, h1], p⟩
 · split at p
   · rename_i h0
     obtain ⟨h1, p⟩ := vt_ok p
     obtain ⟨h2, p⟩ := vt_ok p
     obtain ⟨h3, p⟩ := vt_ok p
     obtain ⟨h4, p⟩ := vt_ok p
     refine ⟨_, _, ?_, p⟩
     simp only [Bool.and_eq_true] at h2
     simp only [appA, h0, h1, h2.1.1, h2.1.2, h2.2, h3, h4, Bool.and_self]
   · exact p.elim
 · exact p.elim
theorem no_trunc {e sz bytes : Nat} {h : Heap} {more : List (List DV)} {x : AV} {r : AV × Heap} (p : appA e sz bytes h more x = some r) : truncA h x = none := by
 unfold truncA
 split
 · rename_i i g lo hi
   split
   · rename_i ty nl g' sz' rows h0
     split
     · rename_i hc
       simp only [Bool.and_eq_true] at hc
       have hlt : hi < rows.length := Nat.le_of_ble_eq_true hc.2
       simp only [appA, h0] at p
       split at p
       · rename_i h2 _
         unfold ieq at h2
         simp at h2
         omega
       · cases p
     · rfl
   · rfl
 · rfl
def vSl (nl : Bool) (sz : Nat) (rows : List (List DV)) (lo hi : Nat) (k : DV → Prop) : Prop := match nl with
 | false => k (.sl sz ((rows.take hi).drop lo))
 | true => vb rows.isEmpty fun
  | true => k .nilsl
  | false => k (.sl sz ((rows.take hi).drop lo))
theorem vSl_ok {nl : Bool} {sz : Nat} {rows : List (List DV)} {lo hi : Nat} {k : DV → Prop} (e : vSl nl sz rows lo hi k) : k (slOf nl sz rows lo hi) := by
 unfold vSl at e
 cases nl
 · cases rows <;> exact e
 · simp only at e
   rw [vb_eq] at e
   cases rows <;> exact e
mutual
def vD (h : Heap) : AV → (AV → List Nat → Prop) → Prop
 | .d v, k => k (.d v) []
 | .ptr i c, k => k (.ptr i c) []
 | .ept i g r c, k => k (.ept i g r c) []
 | .rpt r c, k => k (.rpt r c) []
 | .osl i g lo hi, k => match h[i]? with
  | some ⟨.lent, _, _⟩ => False
  | some ⟨_, _, .arr nl g' sz rows⟩ => vt (Nat.beq g g') (vSl nl sz rows lo hi fun d => k (.d d) [i])
  | _ => False
 | .agg cs, k => vDL h cs fun cs l => k (.agg cs) l
 | .tup vs, k => vDL h vs fun vs l => k (.tup vs) l
 | .fn m f a b, k => k (.fn m f a b) []
 | .yld m n i, k => k (.yld m n i) []
 | .ifc t v, k => vD h v fun v l => k (.ifc t v) l
 | .junk, k => k .junk []
def vDL (h : Heap) : List AV → (List AV → List Nat → Prop) → Prop
 | [], k => k [] []
 | x :: l, k => vD h x fun x a => vDL h l fun l b => k (x :: l) (a ++ b)
end
mutual
theorem vD_ok (h : Heap) : ∀ (x : AV) (k : AV → List Nat → Prop), vD h x k → ∃ y l, deep h x = some (y, l) ∧ k y l
 | .d v, k, e => ⟨_, _, rfl, e⟩
 | .ptr i c, k, e => ⟨_, _, rfl, e⟩
 | .ept i g r c, k, e => ⟨_, _, rfl, e⟩
 | .rpt r c, k, e => ⟨_, _, rfl, e⟩
 | .osl i g lo hi, k, e => by
  simp only [vD] at e
  split at e
  · exact e.elim
  · rename_i own _ nl g' sz rows hne h1
    obtain ⟨h2, e⟩ := vt_ok e
    have : decide (own = .lent) = false := by
     cases own with
     | lent => exact (hne rfl).elim
     | mine => rfl
     | frozen => rfl
    exact ⟨_, _, by simp only [deep, h1, h2, this], vSl_ok e⟩
  · exact e.elim
 | .agg cs, k, e => by
  simp only [vD] at e
  obtain ⟨y, l, h1, h2⟩ := vDL_ok h cs _ e
  exact ⟨_, _, by simp [deep, h1], h2⟩
 | .tup cs, k, e => by
  simp only [vD] at e
  obtain ⟨y, l, h1, h2⟩ := vDL_ok h cs _ e
  exact ⟨_, _, by simp [deep, h1], h2⟩
 | .fn m f a b, k, e => ⟨_, _, rfl, e⟩
 | .yld m n i, k, e => ⟨_, _, rfl, e⟩
 | .ifc t v, k, e => by
  simp only [vD] at e
  obtain ⟨y, l, h1, h2⟩ := vD_ok h v _ e
  exact ⟨_, _, by simp [deep, h1], h2⟩
 | .junk, k, e => ⟨_, _, rfl, e⟩
theorem vDL_ok (h : Heap) : ∀ (x : List AV) (k : List AV → List Nat → Prop), vDL h x k → ∃ y l, deep.deepL h x = some (y, l) ∧ k y l
 | [], k, e => ⟨_, _, rfl, e⟩
 | x :: xs, k, e => by
  simp only [vDL] at e
  obtain ⟨y, l, h1, e⟩ := vD_ok h x _ e
  obtain ⟨z, l', h2, e⟩ := vDL_ok h xs _ e
  exact ⟨_, _, by simp only [deep.deepL, h1, h2], e⟩
end
def vOp (h : Heap) (act : Act) (xs : List AV) (K : OR → Prop) : Prop := match act, xs with
 | .pick, [.d (.bool c), a, b] => vb c fun
  | true => vq (force a) fun x => K (.v x h)
  | false => vq (force b) fun x => K (.v x h)
 | .load n, [a] => vload h n a fun x => vq (force x) fun x => K (.v x h)
 | .store n, [a, x] => vstore h n x a fun h' => K (.v (.tup []) h')
 | .bin op q, [x, y] => vbin h op q x y fun v => K (.v v h)
 | .b2s, [x] => vrows h 1 x fun rows => vo (textOf rows) fun s => K (.v (S s) h)
 | .mks e sz bytes z, [.d (.int _ n), .d (.int _ c)] => vt (ile 0 n) (vt (ieq n c) (vt (room n.toNat bytes) (K (.v (.osl h.length 0 0 n.toNat) (h ++ [⟨.mine, e, .arr false 0 sz (List.replicate n.toNat z)⟩])))))
 | .cuts lo hi, .d (.str s) :: xs => vq (bounds lo hi xs s.length) fun p => vo (icut s p.1 p.2) fun s' => K (.v (S s') h)
 | .cutr sz lo hi, .d .nilsl :: xs => vq (bounds lo hi xs 0) fun p => vt (ieq p.1 0 && ieq p.2 0) (K (.v (.d .nilsl) h))
 | .cutr sz lo hi, .d (.sl sz' rows) :: xs => match Nat.beq sz sz' with
  | true => vq (bounds lo hi xs rows.length) fun p => vo (icut rows p.1 p.2) fun rows' => K (.v (.d (.sl sz rows')) h)
  | false => False
 | .cutr sz lo hi, .osl i g l0 h0 :: xs => match h[i]? with
  | some ⟨_, _, .arr _ g' sz' _⟩ => vt (Nat.beq g g' && Nat.beq sz sz') (vq (bounds lo hi xs ((h0 : Int) - l0)) fun p => vt (ile 0 p.1 && ile p.1 p.2 && ile p.2 ((h0 : Int) - l0) && (ieq p.1 0 || ilt p.1 ((h0 : Int) - l0)))
   (K (.v (.osl i g (l0 + p.1.toNat) (l0 + p.2.toNat)) h)))
  | _ => False
 | .cuta len sz lo hi, .ptr i c :: xs => match h[i]? with
  | some ⟨own, ty, .fix cs⟩ => match decide (own = .lent) with
   | false => vq (deepRows sz len (cs.drop c)) fun rows => vq (bounds lo hi xs len) fun p => vo (icut rows p.1 p.2) fun rows' => K (.v (.d (.sl sz rows')) (h.set i ⟨.frozen, ty, .fix cs⟩))
   | true => False
  | _ => False
 | .iad sz, [.d (.sl sz' rows), .d (.int _ n)] => match Nat.beq sz sz' with
  | true => vo (iget rows n) fun row => K (.v (.rpt row 0) h)
  | false => False
 | .iad sz, [.osl i g lo hi, .d (.int _ n)] => match h[i]? with
  | some ⟨_, _, .arr _ g' sz' rows⟩ => vt (Nat.beq g g') (vt (Nat.beq sz sz') (vo (iget ((rows.take hi).drop lo) n) fun _ => K (.v (.ept i g (lo + n.toNat) 0) h)))
  | _ => False
 | .iadA len sz, [x, .d (.int kk n)] => vt (ile 0 n && ilt n len) (match x with
  | .ptr i c => K (.v (.ptr i (c + n.toNat * sz)) h)
  | .ept i g r c => K (.v (.ept i g r (c + n.toNat * sz)) h)
  | .rpt row c => K (.v (.rpt row (c + n.toNat * sz)) h)
  | _ => False)
 | .idxs, [.d (.str s), .d (.int _ n)] => vo (iget s n) fun b => K (.v (.d (.int .u8 b.toNat)) h)
 | .idxA len sz n, [.agg cs, .d (.int _ i)] => vt (ile 0 i && ilt i len) (vq (part cs (i.toNat * sz) n) fun x => vq (force x) fun x => K (.v x h))
 | .app e sz bytes, [x, y] => vmore h sz y fun more => vapp e sz bytes h more x fun v h' => K (.v v h')
 | .appT e sz bytes, [x, y] => vor (vmore h sz y fun more => vapp e sz bytes h more x fun v h' => K (.v v h')) (vq (truncA h x) fun p => vmore p.2 sz y fun more => vapp e sz bytes p.2 more p.1 fun v h' => K (.v v h'))
 | .appZ e sz bytes z, [.d .nilsl, .d (.int _ n)] => vt (ilt 0 n) (vt (room n.toNat bytes) (K (.v (.osl h.length 0 0 n.toNat) (h ++ [⟨.mine, e, .arr false 0 sz (List.replicate n.toNat z)⟩]))))
 | .sdat, [x] => match Nat.beq (nilKind x) 1 with
  | true => visNil h x fun
   | true => K (.v (.d .nilp) h)
   | false => match x with
    | .osl i g lo hi => vt (Nat.blt lo hi) (K (.v (.ept i g lo 0) h))
    | _ => False
  | false => False
 | .ustr e, [p, .d (.int .i64 n)] => match p with
  | .d .nilp => vt (iz n) (K (.v (S []) h))
  | .ept i g r 0 => vb (iz n) fun
   | true => K (.v (S []) h)
   | false => match h[i]? with
    | some ⟨.mine, ty, .arr _ g' sz rows⟩ => vt (Nat.beq g g') (vt (Nat.beq sz 1 && Nat.beq ty e) (vo (icut rows r (r + n)) fun part => vt (roomS n.toNat) (vo (textOf part) fun s =>
     K (.v (S s) (h.set i ⟨.mine, ty, .arr true (g + 1) 1 []⟩)))))
    | _ => False
  | _ => False
 | .bslT e sz z n ps, xs => vDL h xs fun xs l => vq (fillRows sz (List.replicate n z) ps xs) fun rows => K (.v (.osl (freeze h l).length 0 0 n) (freeze h l ++ [⟨.mine, e, .arr false 0 sz rows⟩]))
 | .storeT n, [a, x] => match a with
  | .ept i g r c => vD h x fun x l => vstore (freeze h l) n x (.ept i g r c) fun h' => K (.v (.tup []) h')
  | a => vstore h n x a fun h' => K (.v (.tup []) h')
 | act, xs => vq (opSem h act xs) K
theorem val_some {h : Heap} {x : AV} : val h (some x) = some (.v x h) := rfl
theorem vOp_ok {h : Heap} {act : Act} {xs : List AV} {K : OR → Prop} (e : vOp h act xs K) : ∃ r, opSem h act xs = some r ∧ K r := by
 unfold vOp at e
 split at e
 · rename_i c a b
   rw [vb_eq] at e
   cases c
   · obtain ⟨x, h1, e⟩ := vq_ok e; exact ⟨_, by simp only [opSem, h1, val_some], e⟩
   · obtain ⟨x, h1, e⟩ := vq_ok e; exact ⟨_, by simp only [opSem, h1, val_some], e⟩
 · obtain ⟨x, h1, e⟩ := vload_ok e; obtain ⟨y, h2, e⟩ := vq_ok e; exact ⟨_, by simp only [opSem, h1, h2, val_some], e⟩
 · obtain ⟨x, h1, e⟩ := vstore_ok e; exact ⟨_, by simp only [opSem, h1], e⟩
 · obtain ⟨x, h1, e⟩ := vbin_ok e; exact ⟨_, by simp only [opSem, h1, val_some], e⟩
 · obtain ⟨x, h1, e⟩ := vrows_ok e; obtain ⟨y, h2, e⟩ := vo_ok e; exact ⟨_, by simp only [opSem, h1, h2], e⟩
 · rename_i n _ c
   obtain ⟨h1, e⟩ := vt_ok e
   obtain ⟨h2, e⟩ := vt_ok e
   obtain ⟨h3, e⟩ := vt_ok e
   obtain ⟨m, rfl⟩ : ∃ m : Nat, n = m := ⟨n.toNat, by unfold ile at h1; simp at h1; omega⟩
   simp only [Int.toNat_natCast] at h3 e
   refine ⟨_, ?_, e⟩
   show opSem h _ [.d (.int _ (.ofNat m)), _] = _
   simp only [opSem, Int.ofNat_eq_natCast, h2, h3]
 · obtain ⟨x, h1, e⟩ := vq_ok e; obtain ⟨y, h2, e⟩ := vo_ok e; exact ⟨_, by simp only [opSem, h1, h2], e⟩
 · obtain ⟨x, h1, e⟩ := vq_ok e; obtain ⟨h2, e⟩ := vt_ok e; exact ⟨_, by simp only [opSem, h1, h2], e⟩
 · split at e
   · rename_i h0; obtain ⟨x, h1, e⟩ := vq_ok e; obtain ⟨y, h2, e⟩ := vo_ok e; exact ⟨_, by simp only [opSem, h0, h1, h2], e⟩
   · exact e.elim
 · split at e
   · rename_i h0
     obtain ⟨h1, e⟩ := vt_ok e
     obtain ⟨p, h2, e⟩ := vq_ok e
     obtain ⟨h3, e⟩ := vt_ok e
     exact ⟨_, by simp only [opSem, h0, h1, h2, h3], e⟩
   · exact e.elim
 · split at e
   · rename_i h0
     split at e
     · rename_i hl
       obtain ⟨x, h1, e⟩ := vq_ok e
       obtain ⟨p, h2, e⟩ := vq_ok e
       obtain ⟨y, h3, e⟩ := vo_ok e
       exact ⟨_, by simp only [opSem, h0, hl, h1, h2, h3], e⟩
     · exact e.elim
   · exact e.elim
 · split at e
   · rename_i h0; obtain ⟨y, h2, e⟩ := vo_ok e; exact ⟨_, by simp only [opSem, h0, h2], e⟩
   · exact e.elim
 · split at e
   · rename_i h0; obtain ⟨h1, e⟩ := vt_ok e; obtain ⟨h3, e⟩ := vt_ok e; obtain ⟨y, h2, e⟩ := vo_ok e; exact ⟨_, by simp only [opSem, h0, h1, h2, h3, Bool.and_self], e⟩
   · exact e.elim
 · obtain ⟨h1, e⟩ := vt_ok e
   split at e
   · exact ⟨_, by simp only [opSem, h1], e⟩
   · exact ⟨_, by simp only [opSem, h1], e⟩
   · exact ⟨_, by simp only [opSem, h1], e⟩
   · exact e.elim
 · obtain ⟨x, h1, e⟩ := vo_ok e; exact ⟨_, by simp only [opSem, h1], e⟩
 · obtain ⟨h0, e⟩ := vt_ok e; obtain ⟨x, h1, e⟩ := vq_ok e; obtain ⟨y, h2, e⟩ := vq_ok e; exact ⟨_, by simp only [opSem, h0, h1, h2, val_some], e⟩
 · obtain ⟨x, h1, e⟩ := vmore_ok e; obtain ⟨v, h', h2, e⟩ := vapp_ok e; exact ⟨_, by simp only [opSem, h1, h2], e⟩
 · rcases e.out with e | e
   · obtain ⟨x, h1, e⟩ := vmore_ok e; obtain ⟨v, h', h2, e⟩ := vapp_ok e; exact ⟨_, by simp only [opSem, no_trunc h2, h1, h2], e⟩
   · obtain ⟨p, h0, e⟩ := vq_ok e; obtain ⟨x, h1, e⟩ := vmore_ok e; obtain ⟨v, h', h2, e⟩ := vapp_ok e; exact ⟨_, by simp only [opSem, h0, h1, h2], e⟩
 · rename_i n
   obtain ⟨h0, e⟩ := vt_ok e
   obtain ⟨h1, e⟩ := vt_ok e
   unfold ilt at h0
   simp only [decide_eq_true_eq] at h0
   cases n with
   | ofNat n =>
    have : Nat.blt 0 n = true := Nat.ble_eq_true_of_le (by have : (0 : Int) < (n : Int) := h0; omega)
    refine ⟨_, by simp only [opSem, this]; simp only [show (Int.ofNat n).toNat = n from rfl] at h1; simp only [h1]; rfl, e⟩
   | negSucc n => exact absurd h0 (by simp)
 · split at e
   · rename_i h0
     obtain ⟨b, h1, e⟩ := visNil_ok e
     cases b
     · simp only at e
       split at e
       · obtain ⟨h2, e⟩ := vt_ok e; exact ⟨_, by simp only [opSem, h0, h1, h2], e⟩
       · exact e.elim
     · exact ⟨_, by simp only [opSem, h0, h1], e⟩
   · exact e.elim
 · split at e
   · obtain ⟨h1, e⟩ := vt_ok e; exact ⟨_, by simp only [opSem, h1], e⟩
   · rename_i i g r
     rw [vb_eq] at e
     cases hz : iz _
     · rw [hz] at e
       simp only at e
       split at e
       · rename_i h0
         obtain ⟨h1, e⟩ := vt_ok e
         obtain ⟨h2, e⟩ := vt_ok e
         obtain ⟨x, h3, e⟩ := vo_ok e
         obtain ⟨h4, e⟩ := vt_ok e
         obtain ⟨y, h5, e⟩ := vo_ok e
         simp only [Bool.and_eq_true] at h2
         exact ⟨_, by simp only [opSem, hz, h0, h1, h2.1, h2.2, h3, h4, h5, Bool.and_self], e⟩
       · exact e.elim
     · rw [hz] at e; exact ⟨_, by simp only [opSem, hz], e⟩
   · exact e.elim
 · obtain ⟨ys, l, h1, e⟩ := vDL_ok h _ _ e
   obtain ⟨rows, h2, e⟩ := vq_ok e
   exact ⟨_, by simp only [opSem, h1, h2], e⟩
 · rename_i n a x
   split at e
   · obtain ⟨y, l, h1, e⟩ := vD_ok h _ _ e
     obtain ⟨h', h2, e⟩ := vstore_ok e
     exact ⟨_, by simp only [opSem, h1, h2], e⟩
   · rename_i hne
     obtain ⟨h', h2, e⟩ := vstore_ok e
     refine ⟨_, ?_, e⟩
     cases a <;> first
      | (simp only [opSem, h2]; done)
      | exact (hne _ _ _ _ rfl).elim
 · exact vq_ok e
end Go.Proofs.YtlhajccbfapieaaGreatDoor.Ab
