/- A law, out of the interpreter's answer at all typed data. -/
import Derived.Test.YtlhajccbfapieaaGreatDoorAbJoin
namespace Go.Proofs.YtlhajccbfapieaaGreatDoor.Ab
open Go Go.ChangeShapes Go.WideShapes Go.RowKit
set_option linter.unusedVariables false
section
variable {H : Type} {enc : TypeId × Value → H} {P : Program}
def ShapeAll (P : Program) : List TypeId → List (List DV) → Prop
 | [], xss => xss = []
 | t :: ts, xss => ∃ d xs yss, xss = xs :: yss ∧ Shape P d t xs ∧ ShapeAll P ts yss
def argsA (P : Program) : List TypeId → List (List DV) → List AV
 | t :: ts, xs :: xss => argA P t xs :: argsA P ts xss
 | _, _ => []
theorem args_rel {W : World} {L : List TypeId} (hL : closedT P L = true) {b0 : Nat} {sp : Nat → Bool} : ∀ {ts : List TypeId} {vs : List Value} {ds : List (DataW H)} {ps : List MemPlace}, (∀ t ∈ ts, memb t L = true) → DataW.TrodAll enc P W 0 sp true ts vs ds ps →
 (∀ (j : Nat) t v, ts[j]? = some t → vs[j]? = some v → Value.okWide P W .any b0 t v) → ∃ xss, ShapeAll P ts xss ∧ relL ⟨W, noFb, [], []⟩ (argsA P ts xss) vs
 | [], vs, ds, ps, hp, h, hv => by
  obtain ⟨rfl, rfl, rfl⟩ := trodAll_nil h
  exact ⟨[], rfl, rfl⟩
 | t :: ts, vs, ds, ps, hp, h, hv => by
  obtain ⟨v, vs', x, ds', p, q, rfl, rfl, rfl, h1, h2⟩ := trodAll_cons h
  obtain ⟨d, xs, h3, h4⟩ := arg_rel (h := []) (bs := []) hL (hp t (List.mem_cons_self ..)) h1 (hv 0 t v rfl rfl)
  obtain ⟨xss, h5, h6⟩ := args_rel hL (fun t ht => hp t (List.mem_cons_of_mem _ ht)) h2 fun j t v a b => hv (j + 1) t v (by simpa using a) (by simpa using b)
  exact ⟨xs :: xss, ⟨d, xs, xss, rfl, h3, h5⟩, v, vs', rfl, h4, h6⟩
theorem same_of_below {W W' : World} (hb : Below W.heap.size W W') {p : MemPlace} (hp : p.block < W.heap.size) : W.sameAt W' p := by
 cases p with
 | cell b off => exact hb.cell (p := ⟨b, off, none⟩) hp
 | map b => exact hb.block b hp
theorem trodAll_stays {W W' : World} (K : Kids P (· < P.types.size)) (hz : ∀ t e, t < P.types.size → P.underlying t = some (.slice e) → 0 < P.cellsOf e) (hb : Below W.heap.size W W') {sp : Nat → Bool} :
 ∀ {ts : List TypeId} {vs : List Value} {ds : List (DataW H)} {ps : List MemPlace}, (∀ t ∈ ts, t < P.types.size) → DataW.TrodAll enc P W 0 (fun _ => true) true ts vs ds ps → (∀ p ∈ ps, p.block < W.heap.size ∧ sp p.block = true) →
 DataW.TrodAll enc P W' 0 sp true ts vs ds ps
 | [], vs, ds, ps, hT, h, hp => by
  obtain ⟨rfl, rfl, rfl⟩ := trodAll_nil h
  exact rfl
 | t :: ts, vs, ds, ps, hT, h, hp => by
  obtain ⟨v, vs', x, ds', p, q, rfl, rfl, rfl, ⟨fuel, h1⟩, h2⟩ := trodAll_cons h
  refine ⟨p, q, ⟨fuel, ?_⟩, trodAll_stays K hz hb (fun t ht => hT t (List.mem_cons_of_mem _ ht)) h2 (fun r hr => hp r (List.mem_append_right _ hr)), rfl⟩
  exact DataW.trod_stays K (fun {t e} ht he => hz t e ht he) (fun h => by cases h) (hT t (List.mem_cons_self ..)) h1 (fun r hr => same_of_below hb (hp r (List.mem_append_left _ hr)).1) fun r hr => (hp r (List.mem_append_left _ hr)).2
theorem law_post {fn : Func} {s : ChangeSpec} {W W' : World} {args : Array Value} {ds gs : List (DataW H)} {before : List MemPlace} {tb : TypeId} (K : Kids P (· < P.types.size))
 (hz : ∀ t e, t < P.types.size → P.underlying t = some (.slice e) → 0 < P.cellsOf e) (hT : ∀ t ∈ fn.params.toList, t < P.types.size) (hres : fn.resultTypes = #[tb]) (hbool : P.underlying tb = some .bool) (hvars : s.vars = [])
 (hfn : ∀ (l : List (DataW H)), l.length = fn.params.size → (s.fn H l).results = [.lit (.bool true)] ∧ (s.fn H l).args = l ∧ (s.fn H l).vars = [])
 (hW : DataW.Whole enc P fn.params.toList s.vars false W args.toList ds gs before) (hb : Below W.heap.size W W') : s.post enc P fn false true false false W args (.bool true) W' := by
 have hlt : ∀ p ∈ before, p.block < W.heap.size := fun p hp => hW.lt p hp
 have hW0 := hW
 obtain ⟨p, q, h1, h2, rfl, hfz, hnd⟩ := hW
 rw [hvars] at h2
 obtain ⟨rfl, rfl⟩ := trodVars_none h2
 have hlen : ∀ {ts : List TypeId} {vs : List Value} {ds : List (DataW H)} {ps : List MemPlace}, DataW.TrodAll enc P W 0 (fun _ => true) true ts vs ds ps → ds.length = ts.length := by
  intro ts
  induction ts with
  | nil => intro vs ds ps h; obtain ⟨_, rfl, _⟩ := trodAll_nil h; rfl
  | cons t ts ih => intro vs ds ps h; obtain ⟨v, vs', x, ds', p, q, rfl, rfl, rfl, _, h2⟩ := trodAll_cons h; simp [ih h2]
 obtain ⟨e1, e2, e3⟩ := hfn (ds ++ []) (by simpa using hlen h1)
 refine ⟨ds, [], p ++ [], [], p, [], hW0, ?_, ?_, ?_, World.keptBut_mono (fun x hx => ⟨hx, .inr (.inl (by simpa using hx))⟩) (hb.frame (· ∈ p ++ [])), fun h => by cases h⟩
 · rw [e1, hres]
   exact trodAll_mk1 (shut_bool hbool true)
 · rw [e2, List.append_nil]
   exact trodAll_stays K hz hb hT h1 fun x hx => ⟨hlt x (List.mem_append_left _ hx), by simpa using hlt x (List.mem_append_left _ hx)⟩
 · rw [e3, hvars]
   rfl
theorem law_calls {cfg : Cfg} {F : Nat → Option Fn} {L : List TypeId} {f b0 : Nat} {fn : Func} {s : ChangeSpec} {W : World} {args : Array Value} {ds gs : List (DataW H)} {before : List MemPlace} {tb : TypeId} (hF : FOk P cfg F) {body : Code}
 (hf : P.funcs[f]? = some fn) (hbody : fn.body = some body) (hn : (fn.name == "runtime.NumGoroutine") = false) (gl : Glob cfg ⟨W, noFb, [], []⟩)
 (hl : laidOutB P = true) (hm : mapsRowed P = true) (hz : ((List.range P.types.size).all fun t => match P.underlying t with | some (.slice e) => decide (0 < P.cellsOf e) | _ => true) = true)
 (hL : closedT P L = true) (hT : fn.params.toList.all (fun t => memb t L && decide (t < P.types.size)) = true) (hres : fn.resultTypes = #[tb]) (hbool : P.underlying tb = some .bool) (hvars : s.vars = [])
 (hfn : ∀ (l : List (DataW H)), l.length = fn.params.size → (s.fn H l).results = [.lit (.bool true)] ∧ (s.fn H l).args = l ∧ (s.fn H l).vars = [])
 (hrun : ∀ xss, ShapeAll P fn.params.toList xss → Pur F f (argsA P fn.params.toList xss) [] .no (.ret (B true)) .no)
 (hval : ∀ (j : Nat) t v, fn.params[j]? = some t → args[j]? = some v → Value.okWide P W .any b0 t v)
 (hW : DataW.Whole enc P fn.params.toList s.vars false W args.toList ds gs before) : Calls P f args W fun e W' => ∃ v, e = .returned v ∧ s.post enc P fn false true false false W args v W' := by
 have hT' : ∀ t ∈ fn.params.toList, memb t L = true ∧ t < P.types.size := fun t ht => by simpa using List.all_eq_true.1 hT t ht
 have hW0 := hW
 obtain ⟨p, q, h1, h2, rfl, hfz, hnd⟩ := hW
 obtain ⟨xss, h3, h4⟩ := args_rel hL (fun t ht => (hT' t ht).1) h1 fun j t v a b => hval j t v (by simpa using a) (by simpa using b)
 refine (run_call hF hf hbody hn gl h4 (hrun xss h3)).mono fun e W' h => ?_
 obtain ⟨rfl, hb⟩ := h
 exact ⟨_, rfl, law_post (kids_rows hl hm) (slices_full_of P hz) (fun t ht => (hT' t ht).2) hres hbool hvars hfn hW0 hb⟩
end
end Go.Proofs.YtlhajccbfapieaaGreatDoor.Ab
