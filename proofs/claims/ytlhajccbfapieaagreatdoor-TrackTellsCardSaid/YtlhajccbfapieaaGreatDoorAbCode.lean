/- Code, compiled. -/
import Derived.Test.YtlhajccbfapieaaGreatDoorAbStep5
namespace Go.Proofs.YtlhajccbfapieaaGreatDoor.Ab
open Go
set_option linter.unusedVariables false
def compGd (n : Nat) (ops : Array Oper) : Option (Nat × Bool) → Option (Option (Nat × Bool))
 | none => some none
 | some (j, want) => match ops[j]? with
  | some o => match o.dst with
   | some t => match Nat.blt t n with
    | true => some (some (t, want))
    | false => none
   | none => none
  | none => none
def dstOk (n : Nat) : Option Nat → Bool
 | some t => Nat.blt t n
 | none => true
def compIns (P : Program) (cfg : Cfg) (n : Nat) (ops : Array Oper) (draw : Bool) (o : Oper) : Option Ins :=
 match compOp P cfg draw o.op with
 | some (act, opds) => match compOpds cfg n opds, compGd n ops o.guard, dstOk n o.dst with
  | some xs, some gd, true => some ⟨o.dst, gd, act, xs⟩
  | _, _, _ => none
 | none => none
def compInss (P : Program) (cfg : Cfg) (n : Nat) (ops : Array Oper) (draw : Bool) : List Oper → Option (List Ins)
 | [] => some []
 | o :: l => match compIns P cfg n ops draw o, compInss P cfg n ops draw l with
  | some i, some is => some (i :: is)
  | _, _ => none
def kindOf : Act → Nat
 | .mv | .pick | .cvi _ | .cvs | .un _ | .mki _ | .mkf _ _ _ | .cuts _ _ | .fad _ | .fld _ _ | .iadA _ _ | .nilck | .idxs | .idxA _ _ _ | .ext _ | .tas _ _ _ | .build _ _ | .len | .lens | .min | .max => 0
 | .bin _ q => match q with
  | .nil 1 => 1
  | _ => 0
 | .load _ | .cvu | .cvp _ _ | .b2s | .iad _ | .sdat | .cutr _ _ _ => 1
 | .call p => match p with
  | true => 1
  | false => 9
 | .new _ _ | .box _ | .bsl _ _ _ _ _ | .s2b _ | .mks _ _ _ _ => 2
 | .store _ | .storeT _ => 3
 | _ => 9
def later : Act → Bool
 | .load _ => true
 | .call _ => true
 | .iad _ => true
 | _ => false
def isCuta : Act → Bool
 | .cuta _ _ _ _ => true
 | _ => false
def isLoad : Act → Bool
 | .load _ => true
 | _ => false
def isIad : Act → Bool
 | .iad _ => true
 | _ => false
def uses (i : Ins) : List Nat :=
 let l := i.xs.filterMap fun | .t s => some s | .k _ => none
 match i.gd with
 | some (g, _) => g :: l
 | none => l
def notDst (d : Option Nat) (l : List Nat) : Bool :=
 match d with
 | some t => !memb t l
 | none => true
def otherDst : Option Nat → Option Nat → Bool
 | some t, some u => !Nat.beq t u
 | _, _ => true
def slotsApart (x y : Ins) : Bool := notDst x.dst (uses y) && notDst y.dst (uses x) && otherDst x.dst y.dst
def loadStore (x y : Ins) : Option (Nat × Nat × Nat × Nat) :=
 match x.act, x.xs, y.act, y.xs with
 | .load n, [.t a], .store m, .t u :: _ => some (a, n.getD 1, u, m)
 | .load n, [.t a], .storeT m, .t u :: _ => some (a, n.getD 1, u, m)
 | .load n, [.t a], .app _ _ _, .t u :: _ => some (a, n.getD 1, u, 0)
 | .iad _, .t a :: _, .app _ _ _, .t u :: _ => some (a, 0, u, 0)
 | _, _, _, _ => none
def beq4 (a b : Nat × Nat × Nat × Nat) : Bool := Nat.beq a.1 b.1 && Nat.beq a.2.1 b.2.1 && Nat.beq a.2.2.1 b.2.2.1 && Nat.beq a.2.2.2 b.2.2.2
def noDst (t : Nat) (l : List Ins) : Bool := l.all fun i => otherDst (some t) i.dst
def lookD (x y : Ins) : Option Nat :=
 match x.act, x.xs, y.act with
 | .load _, [.t a], .callD ls => match memb a ls with
  | true => some a
  | false => none
 | .iad _, .t a :: _, .callD ls => match memb a ls with
  | true => some a
  | false => none
 | _, _, _ => none
def memOk (is : List Ins) (chk : List (Nat × Nat × Nat × Nat)) (j i : Nat) (x y : Ins) : Bool :=
 Nat.beq (kindOf x.act) 0 || Nat.beq (kindOf y.act) 0 || (Nat.beq (kindOf x.act) 1 && Nat.beq (kindOf y.act) 1) || (Nat.beq (kindOf x.act) 1 && later x.act && Nat.beq (kindOf y.act) 2) ||
  (isIad x.act && Nat.beq (kindOf y.act) 3) ||
  (match loadStore x y with
   | some q => chk.any (beq4 q) && noDst q.1 (is.drop j) && noDst q.2.2.1 (is.drop i)
   | none => false) ||
  (isCuta x.act && isLoad y.act) || (isLoad x.act && isCuta y.act) ||
  (match lookD x y with
   | some a => noDst a (is.drop j)
   | none => false)
def ordered (aft : List (List Nat)) : Nat → Nat → Nat → Bool
 | 0, _, _ => false
 | f + 1, j, i => match aft[i]? with
  | some l => memb j l || l.any fun k => ordered aft f j k
  | none => false
def isOrd (aft : List (List Nat)) (j i : Nat) : Bool := ordered aft 4 j i
def low1 (x : Ins) : Bool := Nat.ble (kindOf x.act) 1
def low2 (x : Ins) : Bool := Nat.ble (kindOf x.act) 2
def pairOk (aft : List (List Nat)) (is : List Ins) (chk : List (Nat × Nat × Nat × Nat)) (j i : Nat) (x y : Ins) : Bool :=
 match isD x.act, isD y.act with
 | false, false => (slotsApart x y && memOk is chk j i x y) || isOrd aft j i
 | false, true => (slotsApart x y && (memOk is chk j i x y && low1 x)) || (isOrd aft j i && low2 x)
 | true, _ => isOrd aft j i
def pairsOk (aft : List (List Nat)) (is : List Ins) (chk : List (Nat × Nat × Nat × Nat)) (i : Nat) (y : Ins) : Nat → List Ins → Bool
 | _, [] => true
 | j, x :: l => match Nat.blt j i with
  | true => pairOk aft is chk j i x y && pairsOk aft is chk i y (j + 1) l
  | false => true
def drawOk (aft : List (List Nat)) (is : List Ins) (chk : List (Nat × Nat × Nat × Nat)) : Nat → List Ins → Bool
 | _, [] => true
 | i, y :: l => pairsOk aft is chk i y 0 is && drawOk aft is chk (i + 1) l
def afters (o : Oper) : List Nat := (o.after.toList.filter (Region.binds .any)).map (·.on)
def theChecks (aft : List (List Nat)) (is : List Ins) : List (Nat × Nat × Nat × Nat) :=
 (List.range is.length).flatMap fun i => (List.range i).filterMap fun j => match is[j]?, is[i]? with
  | some x, some y => match loadStore x y with
   | some q => match ordered aft 4 j i with
    | true => none
    | false => some q
   | none => none
  | _, _ => none
def getL {α : Type} (l : List α) : List Nat → Option (List α)
 | [] => some []
 | i :: r => match l[i]?, getL l r with
  | some x, some y => some (x :: y)
  | _, _ => none
def aftP (perm : List Nat) (aft : List (List Nat)) : List (List Nat) :=
 perm.map fun i => match aft[i]? with
  | some l => l.filterMap fun k => place k perm
  | none => []
def permOk (aft : List (List Nat)) : List Nat → List Nat → Bool
 | _, [] => true
 | done, i :: r => (match aft[i]? with
  | some l => l.all (memb · done)
  | none => false) && !memb i done && permOk aft (i :: done) r
def markLs (aft : List (List Nat)) (is : List Ins) (i : Nat) : List Nat :=
 (List.range i).filterMap fun j => match ordered aft 4 j i, is[j]? with
  | false, some ⟨_, _, .load _, [.t a]⟩ => some a
  | false, some ⟨_, _, .iad _, .t a :: _⟩ => some a
  | _, _ => none
def markD (aft : List (List Nat)) (is : List Ins) : Nat → List Ins → List Ins
 | _, [] => []
 | i, ⟨d, g, .call false, xs⟩ :: r => ⟨d, g, .callD (markLs aft is i), xs⟩ :: markD aft is (i + 1) r
 | i, x :: r => x :: markD aft is (i + 1) r
def unmark : Ins → Ins
 | ⟨d, g, .callD _, xs⟩ => ⟨d, g, .call false, xs⟩
 | x => x
def rankOf (x : Ins) : Nat := match kindOf x.act with
 | 0 => 0
 | 1 => 0
 | 2 => 1
 | _ => match x.act with
  | .call _ => 3
  | _ => 2
def bestOf (aft : List (List Nat)) (is : List Ins) (done : List Nat) : Nat → List Ins → Option (Nat × Nat) → Option (Nat × Nat)
 | _, [], b => b
 | i, x :: r, b => match memb i done, aft[i]? with
  | false, some l => match l.all (memb · done) with
   | true => match b with
    | some (k, _) => match Nat.blt (rankOf x) k with
     | true => bestOf aft is done (i + 1) r (some (rankOf x, i))
     | false => bestOf aft is done (i + 1) r b
    | none => bestOf aft is done (i + 1) r (some (rankOf x, i))
   | false => bestOf aft is done (i + 1) r b
  | _, _ => bestOf aft is done (i + 1) r b
def canonO (aft : List (List Nat)) (is : List Ins) : Nat → List Nat → List Nat
 | 0, done => done.reverse
 | n + 1, done => match bestOf aft is done 0 is none with
  | some (_, i) => canonO aft is n (i :: done)
  | none => done.reverse
def drawnBy (aft : List (List Nat)) (is0 : List Ins) (mark : Bool) (perm : List Nat) : Option CC :=
 match getL is0 perm with
 | some is1 =>
  let aftp := aftP perm aft
  let is := match mark with
   | true => markD aftp is1 0 is1
   | false => is1
  let chk := theChecks aftp is
  match drawOk aftp is chk 0 is && permOk aft [] perm && Nat.beq perm.length is0.length && is1.all (fun z => !isD z.act) with
  | true => some (.reg (some chk) is)
  | false => none
 | none => none
def orE {α : Type} : Option α → Option α → Option α
 | some x, _ => some x
 | none, y => y
def drawnReg (P : Program) (cfg : Cfg) (n : Nat) (ops : Array Oper) : Option CC :=
 match compInss P cfg n ops true ops.toList with
 | some is =>
  let aft := ops.toList.map afters
  orE (drawnBy aft is true (List.range is.length)) (orE (drawnBy aft is false (List.range is.length)) (drawnBy aft is true (canonO aft is is.length [])))
 | none => none
def withSlots (cfg : Cfg) : Cfg := ⟨cfg.mode, cfg.glob, true, cfg.tells, false⟩
def withStrict (cfg : Cfg) : Cfg := ⟨cfg.mode, cfg.glob, false, cfg.tells, true⟩
def compReg (P : Program) (cfg : Cfg) (n : Nat) (ops : Array Oper) : Bool → Option CC
 | false => (compInss P cfg n ops false ops.toList).map (.reg none)
 | true => orE (drawnReg P (withStrict cfg) n ops) (orE (drawnReg P cfg n ops) (drawnReg P (withSlots cfg) n ops))
theorem compReg_true {P : Program} {cfg : Cfg} {n : Nat} {ops : Array Oper} {cc : CC} (h : compReg P cfg n ops true = some cc) : ∃ b t, drawnReg P ⟨cfg.mode, cfg.glob, b, cfg.tells, t⟩ n ops = some cc := by
 unfold compReg at h
 have key : ∀ a b : Option CC, orE a b = some cc → a = some cc ∨ b = some cc := fun a b h => by
  cases a with
  | some y => exact .inl h
  | none => exact .inr h
 rcases key _ _ h with h | h
 · exact ⟨_, _, h⟩
 · rcases key _ _ h with h | h
   · exact ⟨_, _, h⟩
   · exact ⟨_, _, h⟩
def compC (P : Program) (cfg : Cfg) (num : Nat) (site : Option Site) (n : Nat) : Code → Option CC
 | .skip => some .skip
 | .label _ => some .skip
 | .region _ ops draw => compReg P cfg n ops draw
 | .seq a b => match compC P cfg num site n a, compC P cfg num site n b with
  | some a, some b => some (.seq a b)
  | _, _ => none
 | .cond x a b => match compOpd cfg n x, compC P cfg num site n a, compC P cfg num site n b with
  | some x, some a, some b => some (.cond x a b)
  | _, _, _ => none
 | .block id c => (compC P cfg num site n c).map (.block id)
 | .loop c => (compC P cfg num site n c).map (.loop [])
 | .scope c => compC P cfg num site n c
 | .rangeFunc f _ _ _ => match site, compOpd cfg n f with
  | some s, some f => match Nat.beq s.n n && s.keep.all (Nat.blt · n) with
   | true => some (.rng num s.keep f)
   | false => none
  | _, _ => none
 | .exit id => some (.exit id)
 | .ret => some .ret
 | .refuse _ => some .bad
 | _ => none
inductive Comp (P : Program) (cfg : Cfg) (n : Nat) : Code → CC → Prop
 | skip : Comp P cfg n .skip .skip
 | label (l : _) : Comp P cfg n (.label l) .skip
 | region (id : _) (ops : Array Oper) (draw : Bool) (cc : CC) (h : compReg P cfg n ops draw = some cc) : Comp P cfg n (.region id ops draw) cc
 | seq (a b : Code) (x y : CC) (h : Comp P cfg n a x) (k : Comp P cfg n b y) : Comp P cfg n (.seq a b) (.seq x y)
 | cond (x : Operand) (a b : Code) (z : Opd) (y w : CC) (h0 : compOpd cfg n x = some z) (h : Comp P cfg n a y) (k : Comp P cfg n b w) : Comp P cfg n (.cond x a b) (.cond z y w)
 | block (id : _) (c : Code) (x : CC) (h : Comp P cfg n c x) : Comp P cfg n (.block id c) (.block id x)
 | loop (keep : List Nat) (c : Code) (x : CC) (h : Comp P cfg n c x) : Comp P cfg n (.loop c) (.loop keep x)
 | scope (c : Code) (x : CC) (h : Comp P cfg n c x) : Comp P cfg n (.scope c) x
 | rng (num : Nat) (keep : List Nat) (f : Operand) (f' : Opd) (ps : Array Tmp) (a b : Code) (h : theSite num = some ⟨ps, a, b, keep, n⟩) (hk : keep.all (Nat.blt · n) = true) (h0 : compOpd cfg n f = some f') : Comp P cfg n (.rangeFunc f ps a b) (.rng num keep f')
 | exit (id : _) : Comp P cfg n (.exit id) (.exit id)
 | ret : Comp P cfg n .ret .ret
 | refuse (s : _) : Comp P cfg n (.refuse s) .bad
 | fgt (keep : List Nat) (c : Code) (x : CC) (h : Comp P cfg n c x) : Comp P cfg n c (.seq (.fgt keep) x)
section
variable {P : Program} {cfg : Cfg} {n : Nat}
def AllR (site : Option Site) (c : Code) : Prop := ∀ s, site = some s → ∀ q ∈ rngs c, s.params = q.1 ∧ s.assign = q.2.1 ∧ s.body = q.2.2
theorem comp_of {num : Nat} {site : Option Site} (hS : ∀ s, site = some s → theSite num = some s) : ∀ (c : Code) (x : CC), AllR site c → compC P cfg num site n c = some x → Comp P cfg n c x
 | .skip, x, hR, h => by simp only [compC, Option.some.injEq] at h; subst h; exact .skip
 | .label l, x, hR, h => by simp only [compC, Option.some.injEq] at h; subst h; exact .label l
 | .region id ops draw, x, hR, h => by simp only [compC] at h; exact .region id ops draw x h
 | .seq a b, x, hR, h => by
  simp only [compC] at h
  split at h
  · rename_i y z h1 h2; cases h; exact .seq a b y z (comp_of hS a y (fun s hs q hq => hR s hs q (by simp [rngs, hq])) h1) (comp_of hS b z (fun s hs q hq => hR s hs q (by simp [rngs, hq])) h2)
  · cases h
 | .cond o a b, x, hR, h => by
  simp only [compC] at h
  split at h
  · rename_i o' y z h0 h1 h2; cases h; exact .cond o a b o' y z h0 (comp_of hS a y (fun s hs q hq => hR s hs q (by simp [rngs, hq])) h1) (comp_of hS b z (fun s hs q hq => hR s hs q (by simp [rngs, hq])) h2)
  · cases h
 | .block id c, x, hR, h => by
  simp only [compC, Option.map_eq_some_iff] at h
  obtain ⟨y, h1, rfl⟩ := h
  exact .block id c y (comp_of hS c y (fun s hs q hq => hR s hs q (by simp [rngs, hq])) h1)
 | .loop c, x, hR, h => by
  simp only [compC, Option.map_eq_some_iff] at h
  obtain ⟨y, h1, rfl⟩ := h
  exact .loop [] c y (comp_of hS c y (fun s hs q hq => hR s hs q (by simp [rngs, hq])) h1)
 | .exit id, x, hR, h => by simp only [compC, Option.some.injEq] at h; subst h; exact .exit id
 | .ret, x, hR, h => by simp only [compC, Option.some.injEq] at h; subst h; exact .ret
 | .refuse s, x, hR, h => by simp only [compC, Option.some.injEq] at h; subst h; exact .refuse s
 | .rangeFunc f ps a b, x, hR, h => by
  simp only [compC] at h
  split at h
  · rename_i s f' h2
    split at h
    · rename_i h3
      cases h
      obtain ⟨e1, e2, e3⟩ := hR s rfl (ps, a, b) (by simp [rngs])
      simp only [Bool.and_eq_true] at h3
      obtain ⟨h3, hk⟩ := h3
      have h3 := Nat.eq_of_beq_eq_true h3
      obtain ⟨ps', a', b', keep, n'⟩ := s
      simp only at e1 e2 e3 h3
      subst e1 e2 e3 h3
      exact .rng num keep f f' _ _ _ (hS _ rfl) hk h2
    · cases h
  · cases h
 | .scope c, x, hR, h => by
  simp only [compC] at h
  exact .scope c x (comp_of hS c x (fun s hs q hq => hR s hs q (by simp [rngs, hq])) h)
 | .goto _, x, hR, h => by simp [compC] at h
def insL (t : Nat) : List Nat → List Nat
 | [] => [t]
 | u :: l => match Nat.beq t u with
  | true => u :: l
  | false => match Nat.blt t u with
   | true => t :: u :: l
   | false => u :: insL t l
def unionL : List Nat → List Nat → List Nat
 | [], b => b
 | t :: a, b => insL t (unionL a b)
def rmL (t : Nat) : List Nat → List Nat
 | [] => []
 | u :: l => match Nat.beq t u with
  | true => l
  | false => u :: rmL t l
def rmO : Option Nat → List Nat → List Nat
 | some t, l => rmL t l
 | none, l => l
def liveIs : List Ins → List Nat → List Nat
 | [], out => out
 | i :: is, out => unionL (uses i) (rmO i.dst (liveIs is out))
def opdL : Opd → List Nat
 | .t i => [i]
 | .k _ => []
def exitL (id : Nat) : List (Nat × List Nat) → List Nat
 | [] => []
 | (j, l) :: r => match Nat.beq id j with
  | true => l
  | false => exitL id r
def joins : CC → Bool
 | .cond _ _ _ | .block _ _ | .loop _ _ | .rng _ _ _ => true
 | .seq _ b => joins b
 | _ => false
def annot (rt : List Nat) : CC → List Nat → List (Nat × List Nat) → CC × List Nat
 | .skip, out, _ => (.skip, out)
 | .reg d is, out, _ => (.reg d is, liveIs is out)
 | .seq a b, out, env => match annot rt b out env with
  | (b, lb) => match annot rt a (unionL rt lb) env with
   | (a, la) => (.seq a (match joins a with
    | true => .seq (.fgt (unionL rt lb)) b
    | false => b), la)
 | .cond c x y, out, env => match annot rt x out env, annot rt y out env with
  | (x, lx), (y, ly) => (.cond c x y, unionL (opdL c) (unionL lx ly))
 | .block id c, out, env => match annot rt c out ((id, out) :: env) with
  | (c, l) => (.block id c, l)
 | .loop _ c, _, env => match annot rt c [] env with
  | (_, l) => match annot rt c (unionL rt l) env with
   | (c, _) => (.loop (unionL rt l) c, unionL rt l)
 | .rng num keep f, out, _ => (.rng num keep f, unionL (opdL f) (unionL keep (unionL rt out)))
 | .exit id, _, env => (.exit id, exitL id env)
 | .ret, _, _ => (.ret, rt)
 | .bad, _, _ => (.bad, [])
 | .fgt k, out, _ => (.fgt k, out)
theorem orE_some {α : Type} {a b : Option α} {x : α} (h : orE a b = some x) : a = some x ∨ b = some x := by
 cases a with
 | some y => exact .inl h
 | none => exact .inr h
theorem drawnReg_cases {cfg : Cfg} {ops : Array Oper} {cc : CC} (h : drawnReg P cfg n ops = some cc) : ∃ is0, compInss P cfg n ops true ops.toList = some is0 ∧ ∃ mark perm, drawnBy (ops.toList.map afters) is0 mark perm = some cc := by
 unfold drawnReg at h
 split at h
 · rename_i is h1
   refine ⟨is, h1, ?_⟩
   rcases orE_some h with h | h
   · exact ⟨_, _, h⟩
   · rcases orE_some h with h | h
     · exact ⟨_, _, h⟩
     · exact ⟨_, _, h⟩
 · cases h
theorem annot_drawn {cfg : Cfg} {rt out : List Nat} {env : List (Nat × List Nat)} {ops : Array Oper} {cc : CC} (h : drawnReg P cfg n ops = some cc) : (annot rt cc out env).1 = cc := by
 obtain ⟨is0, _, mark, perm, h⟩ := drawnReg_cases h
 unfold drawnBy at h
 split at h
 · simp only at h
   split at h
   · cases h; rfl
   · cases h
 · cases h
theorem annot_reg {rt out : List Nat} {env : List (Nat × List Nat)} {ops : Array Oper} {draw : Bool} {cc : CC} (h : compReg P cfg n ops draw = some cc) : (annot rt cc out env).1 = cc := by
 cases draw with
 | false => simp only [compReg, Option.map_eq_some_iff] at h; obtain ⟨is, _, rfl⟩ := h; rfl
 | true => obtain ⟨b, t, h⟩ := compReg_true h; exact annot_drawn h
theorem annot_comp {rt : List Nat} {c : Code} {x : CC} (h : Comp P cfg n c x) : ∀ out env, Comp P cfg n c (annot rt x out env).1 := by
 induction h with
 | skip => intro out env; exact .skip
 | label l => intro out env; exact .label l
 | region id ops draw cc h => intro out env; rw [annot_reg h]; exact .region id ops draw cc h
 | seq a b x y _ _ ih ik =>
  intro out env
  refine .seq _ _ _ _ (ih _ _) ?_
  split
  · exact .fgt _ _ _ (ik _ _)
  · exact ik _ _
 | cond o a b z y w h0 _ _ ih ik => intro out env; exact .cond _ _ _ _ _ _ h0 (ih _ _) (ik _ _)
 | block id c x _ ih => intro out env; exact .block _ _ _ (ih _ _)
 | loop keep c x _ ih => intro out env; exact .loop _ _ _ (ih _ _)
 | scope c x _ ih => intro out env; exact .scope _ _ (ih _ _)
 | rng num keep f f' ps a b h hk h0 => intro out env; exact .rng num keep f f' ps a b h hk h0
 | exit id => intro out env; exact .exit id
 | ret => intro out env; exact .ret
 | refuse s => intro out env; exact .refuse s
 | fgt keep c x _ ih =>
  intro out env
  exact .fgt _ _ _ (ih _ _)
end
end Go.Proofs.YtlhajccbfapieaaGreatDoor.Ab
