/- The abstract machine, 3 (quick): regions, code, calls. All in the style 'and then': the last argument says what is to hold of whatever comes out. -/
import Derived.Test.YtbnieocmjafidaaGreatAc2
set_option linter.unusedVariables false
namespace Go.Ab
noncomputable section

/-- How a piece of code is left. -/
inductive AX where
  | normal
  | exit (id : Nat)
  | ret

/-- What lies below: a call, a round. -/
structure Sub where
  call : FuncId → List AV → AH → (AV → AH → Bool) → Bool
  round : Pa → List AV → AH → (AV → AH → Bool) → Bool

abbrev StepF := Sub → AS → AH → (AS → AH → Bool) → Bool
abbrev KC := AX → AS → AH → Bool
abbrev CF := Sub → Option Pa → AS → AH → KC → Bool

def putD (d : Option Pa) (v : AV) (t : PT AV) : PT AV := Option.rec (motive := fun _ => PT AV) t (fun p => t.put p v) d
/-- Go on with a value laid down. -/
def putK (d : Option Pa) (v : AV) (S : AS) (H : AH) (k : AS → AH → Bool) : Bool := AS.rec (motive := fun _ => Bool) (fun t m => k ⟨putD d v t, m⟩ H) S
def obB {α : Type} (x : Option α) (f : α → Bool) : Bool := Option.rec (motive := fun _ => Bool) false f x

def live (x : AB) : Bool := match x with
  | .dead => false
  | _ => true
def stepAlloc (f : AS → Option (AK × AB)) (d : Option Pa) (sub : Sub) (S : AS) (H : AH) (k : AS → AH → Bool) : Bool := obB (f S) fun p => cnd (live p.2) (putK d (p.1.at H.nx) S (H.new p.2) k) false
def stepRead (f : AS → AH → Option AV) (d : Option Pa) (sub : Sub) (S : AS) (H : AH) (k : AS → AH → Bool) : Bool := obB (f S H) fun v => putK d v S H k
def stepFork (f : AS → AH → Option (List AV)) (d : Option Pa) (sub : Sub) (S : AS) (H : AH) (k : AS → AH → Bool) : Bool := obB (f S H) fun vs => allL (fun v => putK d v S H k) vs
def stepAct (f : AS → AH → Option (AV × AH)) (d : Option Pa) (sub : Sub) (S : AS) (H : AH) (k : AS → AH → Bool) : Bool := obB (f S H) fun p => putK d p.1 S p.2 k
def stepNext (f : AS → AH → Option (List (AV × AH))) (d : Option Pa) (sub : Sub) (S : AS) (H : AH) (k : AS → AH → Bool) : Bool := obB (f S H) fun ps => allL (fun p => putK d p.1 S p.2 k) ps
def stepCall (g : Opd) (args : List Opd) (d : Option Pa) (sub : Sub) (S : AS) (H : AH) (k : AS → AH → Bool) : Bool := match g S with
  | .func f cap => sub.call f (catL (mapL (fun x => x S) args) cap) H fun v H => putK d v S H k
  | .yield l => sub.round l (mapL (fun x => x S) args) H fun v H => putK d v S H k
  | _ => false
def stepOf (F : OF) (d : Option Pa) : Option StepF := match F with
  | .alloc f => some (stepAlloc f d)
  | .read f => some (stepRead f d)
  | .fork f => some (stepFork f d)
  | .act f => some (stepAct f d)
  | .next f => some (stepNext f d)
  | .call g args => some (stepCall g args d)
def stepUnw (d : Option Pa) (sub : Sub) (S : AS) (H : AH) (k : AS → AH → Bool) : Bool := putK d undefA S H k
def stepIf (p : Pa) (want : Bool) (s : StepF) (d : Option Pa) (sub : Sub) (S : AS) (H : AH) (k : AS → AH → Bool) : Bool :=
  obB (S.t.get p) fun v => onBool (fun b => cnd (beqB b want) (s sub S H k) (putK d undefA S H k)) false (onTup (fun _ => putK d undefA S H k) false v) v

/-- The place where a value is laid: one of the n temporaries. -/
def dstE (n : Nat) (d : Option Tmp) : Option (Option Pa) := match d with
  | none => some none
  | some t => bif Nat.blt t n then forcePa (Pa.ofNat t) fun p => some (some p) else none
def dstAt (ops : List Oper) (j : Nat) : Option Tmp := ob (nthL ops j) (·.dst)
/-- A step made to wait for its guard. -/
def guarded (ops : List Oper) (g : Option (Nat × Bool)) (s un : StepF) (d : Option Pa) : Option StepF := match g with
  | none => some s
  | some p => match dstAt ops p.1 with
    | none => some un
    | some t => forcePa (Pa.ofNat t) fun q => match p.2 with
      | true => some (stepIf q true s d)
      | false => some (stepIf q false s d)
def compStep (P : Program) (n : Nat) (ops : List Oper) (o : Oper) : Option StepF := ob (compOpT P o.op) fun F => ob (dstE n o.dst) fun d => ob (stepOf F d) fun s => guarded ops o.guard s (stepUnw d) d

def nilS (sub : Sub) (S : AS) (H : AH) (k : AS → AH → Bool) : Bool := k S H
def consS (s r : StepF) (sub : Sub) (S : AS) (H : AH) (k : AS → AH → Bool) : Bool := s sub S H fun S H => r sub S H k
def stepsF (l : List StepF) : Option StepF := List.rec (motive := fun _ => Option StepF) (some nilS) (fun s _ ih => ob ih fun r => some (consS s r)) l
def failF (sub : Sub) (rd : Option Pa) (S : AS) (H : AH) (k : KC) : Bool := false
def regF (s : StepF) (sub : Sub) (rd : Option Pa) (S : AS) (H : AH) (k : KC) : Bool := s sub S H (k .normal)

/-! ### A region that draws its order -/
inductive It where
  | non (i : Nat)
  | act (i : Nat) (again : List Nat)
/-- Kinds: 0 lays a block, 1 reads, 2 acts. -/
def kdOf (F : OF) : Nat := match F with
  | .alloc _ => 0
  | .read _ => 1
  | .fork _ => 1
  | _ => 2
/-- One operation of such a region: what is kept, its kind, which are ahead of it, which temporaries it lays (as a row of bits), at which it looks. -/
structure Do where
  o : Oper
  F : OF
  b : Nat
  w : Nat
  lk : Nat
def single (f : AS → AH → Option (List AV)) (S : AS) (H : AH) : Option AV := ob (f S H) fun l => match l with
  | [v] => some v
  | _ => none
/-- In such a region a value that is not one alone is refused; a 'next' too. -/
def plainOF (F : OF) : Option OF := match F with
  | .fork f => some (.read (single f))
  | .next _ => some (.act noAct)
  | F => some F
def againStep (f : AS → AH → Option AV) (p : Pa) (sub : Sub) (S : AS) (H : AH) (k : AS → AH → Bool) : Bool :=
  obB (f S H) fun v => obB (S.t.get p) fun v' => cnd (AV.beq v v') (k S H) false
def againStep0 (f : AS → AH → Option AV) (sub : Sub) (S : AS) (H : AH) (k : AS → AH → Bool) : Bool := obB (f S H) fun _ => k S H
def stepAgain (ops : List Oper) (n : Nat) (x : Do) : Option StepF := match x.F with
  | .read f => ob (dstE n x.o.dst) fun d => match d with
    | none => guarded ops x.o.guard (againStep0 f) (stepUnw none) none
    | some p => guarded ops x.o.guard (againStep f p) (stepUnw none) none
  | _ => none
def has (m i : Nat) : Bool := Nat.beq (Nat.land (Nat.shiftRight m i) 1) 1
def bit (i : Nat) : Nat := Nat.shiftLeft 1 i
def sub? (b done : Nat) : Bool := Nat.beq (Nat.land b done) b
def minus (a b : Nat) : Nat := Nat.xor a (Nat.land a b)
def Do.isAct (x : Do) : Bool := Nat.beq (kdOf x.F) 2
def Do.isRead (x : Do) : Bool := Nat.beq (kdOf x.F) 1
def bindsA (e : Edge) : Bool := match e.ground with
  | .textOnly _ => false
  | .gcOnly _ => false
  | _ => true
/-- Which are ahead of an operation, by its edges and what is ahead of those. -/
def aheadOf (acc : List Nat) (es : List Edge) : Nat :=
  List.rec (motive := fun _ => Nat) 0 (fun e _ ih => cnd (bindsA e) (Nat.lor (Nat.lor (bit e.on) (Option.rec (motive := fun _ => Nat) 0 (fun b => b) (nthL acc e.on))) ih) ih) es
def maskO (l : List Operand) : Nat := List.rec (motive := fun _ => Nat) 0 (fun x _ ih => match x with
  | .tmp t => Nat.lor (bit t) ih
  | _ => ih) l
def maskD (d : Option Tmp) : Nat := match d with
  | none => 0
  | some t => bit t
def maskG (ops : List Oper) (g : Option (Nat × Bool)) : Nat := match g with
  | none => 0
  | some p => maskD (dstAt ops p.1)
def doL (P : Program) (n : Nat) (all : List Oper) (l : List Oper) : List Nat → Option (List Do) :=
  List.rec (motive := fun _ => List Nat → Option (List Do)) (fun _ => some [])
    (fun o _ ih acc => ob (compOpT P o.op) fun F => ob (plainOF F) fun F => ob (dstE n o.dst) fun _ =>
      forceNat (aheadOf acc o.after.toList) fun b => forceNat (maskD o.dst) fun w => forceNat (Nat.lor (maskO o.op.operands.toList) (maskG all o.guard)) fun lk =>
      ob (ih (catL acc [b])) fun r => some (⟨o, F, b, w, lk⟩ :: r)) l
/-- All but the last, as a row of bits, if it is ahead of the last: the last alone may lay what others look at. -/
def lastOk (l : List Do) (m : Nat) : Bool := match nthL l m with
  | some x => sub? (Nat.sub (bit m) 1) x.b
  | none => false
/-- The temporaries that are laid by operations that are not ahead of j. -/
def laidBy (free : Nat) (b j : Nat) (l : List Do) : Nat → Nat :=
  List.rec (motive := fun _ => Nat → Nat) (fun _ => 0) (fun y _ ih i => cnd (has b i) (ih (Nat.succ i)) (cnd (Nat.beq i j) (ih (Nat.succ i)) (cnd (Nat.beq i free) (ih (Nat.succ i)) (Nat.lor y.w (ih (Nat.succ i)))))) l
def plainJ (all : List Do) (free : Nat) (l : List Do) : Nat → Bool :=
  List.rec (motive := fun _ => Nat → Bool) (fun _ => true) (fun x _ ih j => cnd (Nat.beq (Nat.land x.lk (laidBy free x.b j all 0)) 0) (ih (Nat.succ j)) false) l
def onceD (l : List Do) : Nat → Bool := List.rec (motive := fun _ => Nat → Bool) (fun _ => true) (fun x _ ih acc => cnd (Nat.beq (Nat.land x.w acc) 0 && Nat.beq (Nat.land x.lk x.w) 0) (ih (Nat.lor x.w acc)) false) l
/-- What a region must be, for its order not to matter: each temporary is laid once, and whoever looks at it comes behind that; but for the last operation, if all others are ahead of it. -/
def plainD (l : List Do) : Bool := cnd (onceD l 0) (plainJ l (cnd (lastOk l (Nat.sub (lenL l) 1)) (Nat.sub (lenL l) 1) (lenL l)) l 0) false
/-- The order in which the abstract machine goes: what does not act as soon as it may. -/
def stage (l : List Do) : Nat → Nat → List It → Nat × List It :=
  List.rec (motive := fun _ => Nat → Nat → List It → Nat × List It) (fun _ done acc => (done, acc))
    (fun x _ ih i done acc => cnd (x.isAct || has done i || !sub? x.b done) (ih (Nat.succ i) done acc) (forceNat (Nat.lor done (bit i)) fun done => ih (Nat.succ i) done (.non i :: acc))) l
def pickA (l : List Do) (done : Nat) : Nat → Option (Nat × Nat) :=
  List.rec (motive := fun _ => Nat → Option (Nat × Nat)) (fun _ => none) (fun x _ ih i => cnd (has done i || !sub? x.b done) (ih (Nat.succ i)) (some (i, x.b))) l
def readsD (l : List Do) : Nat → Nat := List.rec (motive := fun _ => Nat → Nat) (fun _ => 0) (fun x _ ih i => cnd x.isRead (Nat.lor (bit i) (ih (Nat.succ i))) (ih (Nat.succ i))) l
def bitsOf (m n : Nat) : List Nat := Nat.rec (motive := fun _ => List Nat) [] (fun i ih => cnd (has m i) (i :: ih) ih) n
def plan (l : List Do) (n rds : Nat) (f : Nat) : Nat → List It → Option (List It) :=
  Nat.rec (motive := fun _ => Nat → List It → Option (List It)) (fun _ _ => none) (fun _ ih done acc => match stage l 0 done acc with
    | (done, acc) => match pickA l done 0 with
      | none => some acc
      | some p => forceNat (Nat.lor done (bit p.1)) fun done' => ih done' (.act p.1 (bitsOf (minus (Nat.land rds done) p.2) n) :: acc)) f
def actOk (i done : Nat) (l : List Do) : Nat → Bool :=
  List.rec (motive := fun _ => Nat → Bool) (fun _ => true) (fun y _ ih j => cnd (cnd (has done j) true (cnd y.isAct (cnd (Nat.beq j i) true (has y.b i)) (cnd (sub? y.b done) false true))) (ih (Nat.succ j)) false) l
def bitsTo (ag : List Nat) : Nat := List.rec (motive := fun _ => Nat) 0 (fun i _ ih => Nat.lor (bit i) ih) ag
/-- Is a plan one? -/
def planOk (l : List Do) (rds : Nat) (its : List It) : Nat → Bool :=
  List.rec (motive := fun _ => Nat → Bool) (fun done => Nat.beq done (Nat.sub (bit (lenL l)) 1))
    (fun it _ ih done => match it with
      | .non i => (match nthL l i with
        | some x => cnd (x.isAct || has done i || !sub? x.b done) false (ih (Nat.lor done (bit i)))
        | none => false)
      | .act i ag => (match nthL l i with
        | some x => cnd (x.isAct && !has done i && sub? x.b done && actOk i done l 0 && sub? (minus (Nat.land rds done) x.b) (bitsTo ag)) (ih (Nat.lor done (bit i))) false
        | none => false)) its
def revL {α : Type} (l : List α) : List α → List α := List.rec (motive := fun _ => List α → List α) (fun acc => acc) (fun x _ ih acc => ih (x :: acc)) l
def stepD (ops : List Oper) (n : Nat) (x : Do) : Option StepF := ob (dstE n x.o.dst) fun d => ob (stepOf x.F d) fun s => guarded ops x.o.guard s (stepUnw d) d
def planSteps (ops : List Oper) (n : Nat) (l : List Do) : List It → Option (List StepF)
  | [] => some []
  | .non i :: r => ob (nthL l i) fun x => ob (stepD ops n x) fun s => ob (planSteps ops n l r) fun ss => some (s :: ss)
  | .act i ag :: r => ob (nthL l i) fun x => ob (stepD ops n x) fun s => ob (mapO (fun j => ob (nthL l j) (stepAgain ops n)) ag) fun as => ob (planSteps ops n l r) fun ss => some (s :: catL as ss)
def compDrawn (P : Program) (n : Nat) (ops : List Oper) : Option StepF := ob (doL P n ops ops []) fun l => forceNat (readsD l 0) fun rds =>
  ob (plan l (lenL l) rds (Nat.succ (lenL l)) 0 []) fun its => cnd (plainD l && planOk l rds (revL its []) 0) (ob (planSteps ops n l (revL its [])) stepsF) none

/-! ### Code -/
def skipF (sub : Sub) (rd : Option Pa) (S : AS) (H : AH) (k : KC) : Bool := k .normal S H
def exitF (id : Nat) (sub : Sub) (rd : Option Pa) (S : AS) (H : AH) (k : KC) : Bool := k (.exit id) S H
def retF (sub : Sub) (rd : Option Pa) (S : AS) (H : AH) (k : KC) : Bool := k .ret S H
def seqK (g : CF) (sub : Sub) (rd : Option Pa) (k : KC) (x : AX) (S : AS) (H : AH) : Bool :=
  AX.rec (motive := fun _ => Bool) (g sub rd S H k) (fun _ => k x S H) (k x S H) x
def seqF (f g : CF) (sub : Sub) (rd : Option Pa) (S : AS) (H : AH) (k : KC) : Bool := f sub rd S H (seqK g sub rd k)
def condF (c : Opd) (f g : CF) (sub : Sub) (rd : Option Pa) (S : AS) (H : AH) (k : KC) : Bool :=
  onBool (fun b => cnd b (f sub rd S H k) (g sub rd S H k)) (cnd (f sub rd S H k) (g sub rd S H k) false) false (c S)
def blockK (id : Nat) (k : KC) (x : AX) (S : AS) (H : AH) : Bool := match x with
  | .exit id' => bif Nat.beq id' id then k .normal S H else k (.exit id') S H
  | x => k x S H
def blockF (id : Nat) (f : CF) (sub : Sub) (rd : Option Pa) (S : AS) (H : AH) (k : KC) : Bool := f sub rd S H (blockK id k)
def loopK (ih : AS → AH → Bool) (k : KC) (x : AX) (S : AS) (H : AH) : Bool := AX.rec (motive := fun _ => Bool) (ih S H) (fun _ => k x S H) (k x S H) x
def loopN (f : CF) (sub : Sub) (rd : Option Pa) (k : KC) (n : Nat) : AS → AH → Bool :=
  Nat.rec (motive := fun _ => AS → AH → Bool) (fun _ _ => false) (fun _ ih S H => f sub rd S H (loopK ih k)) n
def loopF (f : CF) (sub : Sub) (rd : Option Pa) (S : AS) (H : AH) (k : KC) : Bool := loopN f sub rd k 1048576 S H

/-- What a function is: none that is run here; one with a body; one of sync/atomic's; one of which a contract is known. -/
inductive EK where
  | no
  | go
  | load (k : IntKind)
  | store
  | add (k : IntKind)
  | known (g : List AV → AH → Option (AV × AH))

def endLoopK (l : Pa) (S : AS) (k : KC) (v : AV) (H : AH) : Bool := match H.get l with
  | some (.loop st pe fn t ps a b d) => match st with
    | .busy => false
    | _ => match pe with
      | none => k .normal S (H.set l (.loop .exhausted pe fn t ps a b d))
      | some .ret => k .ret S (H.set l (.loop .exhausted pe fn t ps a b d))
      | some (.exit id) => k (.exit id) S (H.set l (.loop .exhausted pe fn t ps a b d))
      | _ => false
  | _ => false
def rfGo (ent : FuncId → EK) (g : Opd) (sub : Sub) (l : Pa) (S S' : AS) (H : AH) (k : KC) : Bool := match g S with
  | .func f cap => match ent f with
    | .go => sub.call f (.yield l :: cap) H (endLoopK l S' k)
    | _ => false
  | _ => false
def rfF (ent : FuncId → EK) (fn : FuncId) (g : Opd) (ps : List Tmp) (asg body : Code) (sub : Sub) (rd : Option Pa) (S : AS) (H : AH) (k : KC) : Bool := match rd with
  | none => rfGo ent g sub H.nx.succ S ⟨S.t, H.nx :: S.d⟩ ((H.new (.deferred true)).new (.loop .ready none fn S.t ps asg body H.nx)) k
  | some _ => false

def compC (P : Program) (ent : FuncId → EK) (n : Nat) (fn : FuncId) (c : Code) : Option CF := match c with
  | .skip => some skipF
  | .label _ => some skipF
  | .seq a b => ob (compC P ent n fn a) fun f => ob (compC P ent n fn b) fun g => some (seqF f g)
  | .cond c a b => ob (compC P ent n fn a) fun f => ob (compC P ent n fn b) fun g => ob (opE c) fun c => some (condF c f g)
  | .block id c => ob (compC P ent n fn c) fun f => some (blockF id f)
  | .loop c => ob (compC P ent n fn c) fun f => some (loopF f)
  | .scope _ => some failF
  | .exit id => some (exitF id)
  | .ret => some retF
  | .region _ ops false => ob (mapO (compStep P n ops.toList) ops.toList) fun l => ob (stepsF l) fun s => some (regF s)
  | .region _ ops true => match compDrawn P n ops.toList with
    | some s => some (regF s)
    | none => some failF
  | .rangeFunc g ps assign body => ob (opE g) fun g => some (rfF ent fn g ps.toList assign body)
  | .goto _ => some failF
  | .refuse _ => some failF

/-! ### Calls -/
def begT (args : List AV) : Pa → PT AV → PT AV := List.rec (motive := fun _ => Pa → PT AV → PT AV) (fun _ t => t) (fun a _ ih i t => ih i.succ (t.put i a)) args
structure FnF where
  n : Nat
  res : List ResultVar
  c : CF
def compFn (P : Program) (ent : FuncId → EK) (f : FuncId) : Option FnF := ob P.funcs[f]? fun fn => ob fn.body fun c => ob (compC P ent fn.ntmps f c) fun cf => some ⟨fn.ntmps, fn.results.toList, cf⟩
def resA (P : Program) (S : AS) (H : AH) (l : List ResultVar) : Option (List AV) := mapO (fun r => match r with
  | .tmp t => some (someV (S.t.get (Pa.ofNat t)))
  | .cell a t => ob (partOf P t) fun f => onPtr (fun b off => onBlk (fun cs _ => f off cs) none (H.get b)) none (someV (S.t.get (Pa.ofNat a)))) l
def closeA (l : List Pa) : AH → Option AH := List.rec (motive := fun _ => AH → Option AH) some (fun r _ ih H => match H.get r with
  | some (.deferred op) => bif op then ih (H.set r (.deferred false)) else none
  | _ => none) l
def endF (P : Program) (res : List ResultVar) (k : AV → AH → Bool) (S : AS) (H : AH) : Bool := match closeA S.d H with
  | none => false
  | some H => match resA P S H res with
    | none => false
    | some l => match l with
      | [] => k (.tuple []) H
      | v :: r => match r with
        | [] => k v H
        | _ => k (.tuple l) H
def endK (P : Program) (res : List ResultVar) (k : AV → AH → Bool) (x : AX) (S : AS) (H : AH) : Bool := match x with
  | .exit _ => false
  | .normal => endF P res k S H
  | .ret => endF P res k S H
def atomLoad (k : IntKind) (args : List AV) (H : AH) (K : AV → AH → Bool) : Bool := match args with
  | [x] => match onPtr (fun b off => onBlk (fun cs _ => nthL cs off) none (H.get b)) none x with
    | some (.int k' n) => bif kEq k k' then K (.int k n) H else false
    | _ => false
  | _ => false
def atomStore (args : List AV) (H : AH) (K : AV → AH → Bool) : Bool := match args with
  | [.ptr b off, .int k n] => match H.write b off [.int k n] with
    | some H => K (.tuple []) H
    | none => false
  | _ => false
def atomAdd (k : IntKind) (args : List AV) (H : AH) (K : AV → AH → Bool) : Bool := match args with
  | [.ptr b off, .int k' y] => match onBlk (fun cs _ => nthL cs off) none (H.get b) with
    | some (.int k'' x) => bif kEq k k' && kEq k k'' then (match H.write b off [.int k (wrapF k (addI x y))] with
        | some H => K (.int k (wrapF k (addI x y))) H
        | none => false) else false
    | _ => false
  | _ => false
def goCall (P : Program) (ent : FuncId → EK) (sub : Sub) (f : FuncId) (args : List AV) (H : AH) (k : AV → AH → Bool) : Bool := match compFn P ent f with
  | none => false
  | some F => bif Nat.ble (lenL args) F.n then F.c sub none ⟨begT args .z .leaf, []⟩ H (endK P F.res k) else false
def callF (P : Program) (ent : FuncId → EK) (sub : Sub) (f : FuncId) (args : List AV) (H : AH) (k : AV → AH → Bool) : Bool := match ent f with
  | .go => goCall P ent sub f args H k
  | .load kd => atomLoad kd args H k
  | .store => atomStore args H k
  | .add kd => atomAdd kd args H k
  | .known g => (match g args H with
    | some p => k p.1 p.2
    | none => false)
  | .no => false
def putAll (ps : List Tmp) (n : Nat) : List AV → PT AV → Option (PT AV) := List.rec (motive := fun _ => List AV → PT AV → Option (PT AV))
  (fun as t => match as with | [] => some t | _ => none) (fun p _ ih as t => match as with | [] => none | a :: as => bif Nat.blt p n then ih as (t.put (Pa.ofNat p) a) else none) ps
def roundEnd (l : Pa) (k : AV → AH → Bool) (x : AX) (S : AS) (H : AH) : Bool := match H.get l with
  | some (.loop _ _ fn t ps a b d) => match x with
    | .normal => k (.bool true) (H.set l (.loop .ready none fn t ps a b d))
    | .ret => k (.bool false) (H.set l (.loop .done (some .ret) fn t ps a b d))
    | .exit id => k (.bool false) (H.set l (.loop .done (some (.exit id)) fn t ps a b d))
  | _ => false
def roundMid (l : Pa) (sub : Sub) (body : CF) (k : AV → AH → Bool) (x : AX) (S : AS) (H : AH) : Bool := match x with
  | .normal => match H.get l with
    | some (.loop st pe fn t ps a b d) => (match st with
      | .ready => body sub (some l) S (H.set l (.loop .busy pe fn t ps a b d)) (roundEnd l k)
      | _ => false)
    | _ => false
  | _ => false
def ntmpsOf (P : Program) (f : FuncId) : Option Nat := ob P.funcs[f]? fun fn => some fn.ntmps
def roundF (P : Program) (ent : FuncId → EK) (sub : Sub) (l : Pa) (args : List AV) (H : AH) (k : AV → AH → Bool) : Bool := match H.get l with
  | some (.loop .ready pe fn t ps asg body d) => match ntmpsOf P fn with
    | none => false
    | some n => match compC P ent n fn asg with
      | none => false
      | some f => match compC P ent n fn body with
        | none => false
        | some g => match putAll ps n args t with
          | none => false
          | some t' => f sub (some l) ⟨t', []⟩ H (roundMid l sub g k)
  | _ => false
def sub0 : Sub := ⟨fun _ _ _ _ => false, fun _ _ _ _ => false⟩
/-- A call, a round, so many levels deep. -/
def level (P : Program) (ent : FuncId → EK) (n : Nat) : Sub := Nat.rec (motive := fun _ => Sub) sub0 (fun _ sub => ⟨callF P ent sub, roundF P ent sub⟩) n
end
end Go.Ab
