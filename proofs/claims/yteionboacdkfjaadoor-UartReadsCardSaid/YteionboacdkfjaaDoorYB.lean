/-
  X, part B: the executor itself: memory's built-in functions, calls by contract, regions, control, bodies. Definitions alone.
-/
import Derived.Test.YteionboacdkfjaaDoorYA
namespace Go.Proofs.YteionboacdkfjaaDoor.X
noncomputable section

/-- What a call does: with these arguments and this heap it comes to a value and a heap of which the test holds. -/
abbrev CT := List V → H → (V → H → Bool) → Bool

def toRun : List Seg → Option (IntKind × Nat × (Nat → Int))
  | [.run k n f] => some (k, n, f)
  | [.one (.i k x)] => some (k, 1, fun _ => x)
  | _ => none

def joinC (a b : List Seg) : List Seg :=
  match a, b with
  | [], b => match toRun b with
    | some (k, n, f) => [.run k n f]
    | none => b
  | a, b => match toRun a, toRun b with
    | some (k, n, f), some (k', m, g) => cond (ikEq k k') [.run k (n + m) (fun j => cond (Nat.blt j n) (f j) (g (j - n)))] (a ++ b)
    | _, _ => a ++ b

/-- So many rows of cells from an address on. -/
def rowsC (c : List Seg) (a : AA) (n sz : Nat) : Option (Bool × List Seg) :=
  match a.ix, segAt c a.off with
  | some (r, st, f), some (.run k m g) =>
    cond (Nat.beq st 1 && (Nat.beq f 0 && Nat.beq sz 1)) (some (Nat.ble (r + n) m, [.run k n (fun j => g (r + j))])) (subC c a.real (n * sz))
  | none, some (.run k m g) =>
    cond (Nat.beq sz 1) (some (Nat.ble n m, [.run k n g])) (subC c a.real (n * sz))
  | _, _ => subC c a.real (n * sz)

/-- The cells of a slice's elements. -/
def contC (h : H) (x : V) (sz : Nat) : Option (Bool × List Seg) :=
  match x with
  | .sc (.sl none 0 _) => some (true, [])
  | .sc (.sl (some a) n _) =>
    match h.m.get a.id with
    | some b => rowsC b.c a n sz
    | none => none
  | _ => none

def lenS : V → Option Nat
  | .sc (.sl _ n _) => some n
  | _ => none

/-- Rows of cells written from an address on. -/
def putC (c : List Seg) (a : AA) (x : List Seg) (n sz : Nat) : Option (Bool × List Seg) :=
  match a.ix, segAt c a.off, toRun x with
  | some (r, st, f), some (.run k m g), some (k', n', g') =>
    cond (Nat.beq st 1 && (Nat.beq f 0 && (Nat.beq sz 1 && (ikEq k k' && Nat.beq n n'))))
      (some (Nat.ble (r + n) m, segSet c a.off (.run k m (fun j => cond (Nat.ble r j && Nat.blt j (r + n)) (g' (j - r)) (g j))))) (updC c a.real x)
  | none, some (.run k m g), some (k', n', g') =>
    cond (Nat.beq sz 1 && (ikEq k k' && Nat.beq n n'))
      (some (Nat.ble n m, segSet c a.off (.run k m (fun j => cond (Nat.blt j n) (g' j) (g j))))) (updC c a.real x)
  | _, _, _ => updC c a.real x


/-- 'append': the new block has the number id. -/
def appendC (P : Program) [Tb P] (h : H) (id : Nat) (t t' : TypeId) (s x : V) : Option (Bool × V × H) :=
  match undX P t, undX P t' with
  | some (.slice el), some (.slice _) =>
    match szX P el, byX P el, lenS x, zlX P el with
    | some sz, some by_, some n, some z =>
      match contC h x sz with
      | some (b, xc) =>
        let okx := Nat.beq (csize xc) (n * sz)
        cond (Nat.blt 0 sz && (Nat.ble by_ 1073741824 && Nat.beq z sz)) (match s with
        | .sc (.sl none 0 (.k 0)) =>
          match n with
          | 0 => some (b && okx, .sc (.sl none 0 (.k 0)), h)
          | m + 1 => some (b && (okx && Nat.ble ((m + 1) * (by_ + 1)) 68719476736), .sc (.sl (some ⟨id, 0, none⟩) (m + 1) (.g sz)), { h with m := h.m.set id ⟨joinC [] xc, true, false⟩ })
        | .sc (.sl (some a) len (.k cap)) =>
          match contC h s sz with
          | some (b', sc) =>
            let oks := Nat.beq (csize sc) (len * sz)
            match n with
            | 0 => some (b && (b' && (okx && oks)), .sc (.sl (some a) len (.k cap)), h)
            | _ + 1 => match Nat.ble (len + n) cap with
            | false => some (b && (b' && (okx && (oks && Nat.ble ((len + n) * (by_ + 1)) 68719476736))), .sc (.sl (some ⟨id, 0, none⟩) (len + n) (.g sz)), { h with m := h.m.set id ⟨joinC sc xc, true, false⟩ })
            | true =>
              match h.m.get a.id, a.addI len sz with
              | some blk, some a' =>
                cond (blk.ro || Nat.blt a.id h.lo) none (match putC blk.c a' xc n sz with
                | some (b'', c) => some (b && (b' && (b'' && (okx && oks))), .sc (.sl (some a) (len + n) (.k cap)), { h with m := h.m.set a.id { blk with c := c } })
                | none => none)
              | _, _ => none
          | none => none
        | .sc (.sl (some a) len (.g gs)) =>
          match h.m.get a.id, contC h s sz with
          | some blk, some (b', sc) =>
            let oks := Nat.beq (csize sc) (len * sz)
            cond (blk.grow && (Nat.beq gs sz && !(Nat.blt a.id h.lo)))
              (some (b && (b' && (okx && (oks && Nat.ble ((len + n) * (by_ + 1)) 68719476736))), .sc (.sl (some ⟨id, 0, none⟩) (len + n) (.g sz)), { h with m := (h.m.delF a.id).set id ⟨joinC sc xc, true, false⟩ })) none
          | _, _ => none
        | _ => none) none
      | none => none
    | _, _, _, _ => none
  | _, _ => none

/-- 'copy' of a slice to a slice. -/
def copyC (P : Program) [Tb P] (h : H) (t : TypeId) (d x : V) : Option (Bool × V × H) :=
  match undX P t with
  | some (.slice el) =>
    match szX P el, d, lenS x with
    | some sz, .sc (.sl (some a) len _), some n =>
      let q := Nat.min n len
      match h.m.get a.id, x with
      | some blk, .sc (.sl (some a') _ _) =>
        match h.m.get a'.id with
        | some blk' =>
          cond (blk.ro || Nat.blt a.id h.lo) none (match rowsC blk'.c a' q sz with
          | some (b, xc) =>
            cond (Nat.beq (csize xc) (q * sz)) (match putC blk.c a xc q sz with
            | some (b', c) => some (b && b', .sc (.i .i64 q), { h with m := h.m.set a.id { blk with c := c } })
            | none => none) none
          | none => none)
        | none => none
      | some _, .sc (.sl none 0 _) => some (true, .sc (.i .i64 0), h)
      | _, _ => none
    | some _, .sc (.sl none 0 _), some _ => some (true, .sc (.i .i64 0), h)
    | _, _, _ => none
  | _ => none

def memC (P : Program) [Tb P] (h : H) (id : Nat) (b : Builtin) (ts : List TypeId) (xs : List V) : Option (Bool × V × H) :=
  match b, ts, xs with
  | .append, [t, t'], [s, x] => appendC P h id t t' s x
  | .copy, [t, _], [d, x] => copyC P h t d x
  | _, _, _ => none

inductive Ex where
  | nrm
  | exit (id : Nat)
  | ret

abbrev K := Ex → St → Bool

def putD (d : Option Tmp) (v : V) (σ : St) : Option St :=
  match d with
  | none => some σ
  | some d => cond (Nat.blt d σ.nt) (some { σ with fr := σ.fr.set d v }) none

/-- What an operation that makes no call does: 'id': the number of a block that it makes. -/
def stepC (P : Program) [Tb P] (id : Nat) (o : Oper) (σ : St) : Option (Bool × V × H) :=
  let e := ev P σ.fr
  match o.op with
  | .alloc _ | .box _ _ | .buildSlice _ _ _ | .makeSlice _ _ _ =>
    match allocC P e o.op id with
    | some (c, v, b) => some (c, v, { σ.h with m := σ.h.m.set id ⟨b, false, false⟩ })
    | none => none
  | .load t x => match e x with
    | some a => match loadC P σ.h t a with
      | some (c, v) => some (c, v, σ.h)
      | none => none
    | none => none
  | .store t x y => match e x, e y with
    | some a, some v => match storeC P σ.h t a v with
      | some (c, h) => some (c, .jk, h)
      | none => none
    | _, _ => none
  | .call ⟨.builtin .append, args, ts⟩ => match argsOf e args.toList with
    | some xs => memC P σ.h id .append ts.toList xs
    | none => none
  | .call ⟨.builtin .copy, args, ts⟩ => match argsOf e args.toList with
    | some xs => memC P σ.h id .copy ts.toList xs
    | none => none
  | op => match pureC P e op with
    | some (c, v) => some (c, v, σ.h)
    | none => none

/-- The function that a call calls, with its arguments. -/
def calleeC (e : Operand → Option V) (c : Call) : Option (FuncId × List V) :=
  match c.callee with
  | .value f =>
    match e f, argsOf e c.args.toList with
    | some (.sc (.fn g caps)), some vs => some (g, vs ++ caps.map fun a => .sc (.p (some a)))
    | _, _ => none
  | _ => none

def isCall : Op → Bool
  | .call ⟨.value _, _, _⟩ => true
  | _ => false

def callK (P : Program) [Tb P] (Γ : FuncId → Option CT) (o : Oper) (σ : St) (k : V → H → Bool) : Bool :=
  match o.op with
  | .call c =>
    match calleeC (ev P σ.fr) c with
    | some (g, vs) => match Γ g with
      | some F => F vs σ.h k
      | none => false
    | none => false
  | _ => false

/-- One operation in the order of the text: blocks are numbered as they come. -/
def runOp (P : Program) [Tb P] (Γ : FuncId → Option CT) (o : Oper) (σ : St) (k : St → Bool) : Bool :=
  match isCall o.op with
  | true => callK P Γ o σ fun v h => match putD o.dst v { σ with h := h } with
    | some τ => k τ
    | none => false
  | false => match stepC P σ.h.nx o σ with
    | some (c, v, h) => cond c (match putD o.dst v { σ with h := { h with nx := σ.h.nx + 1 } } with
      | some τ => k τ
      | none => false) false
    | none => false

/-- Behind a guard: the slot that it looks at is told in each of the two ways. -/
def guardK (ops : List Oper) (o : Oper) (σ : St) (k : Bool → St → Bool) : Bool :=
  match o.guard with
  | none => k true σ
  | some (j, want) =>
    match ops[j]? with
    | some oj => match oj.dst with
      | some d => match σ.fr.get d with
        | some (.sc (.b x)) => cond (Nat.blt d σ.nt) (cond x (k want { σ with fr := σ.fr.set d (.sc (.b true)) }) (k (!want) { σ with fr := σ.fr.set d (.sc (.b false)) })) false
        | some (.tu []) => cond (Nat.blt d σ.nt) (k false σ) false
        | _ => false
      | none => false
    | none => false

def runOps (P : Program) [Tb P] (Γ : FuncId → Option CT) (ops : List Oper) : List Oper → St → (St → Bool) → Bool
  | [], σ, k => k σ
  | o :: r, σ, k => guardK ops o σ fun w τ =>
    match w with
    | true => runOp P Γ o τ fun ρ => runOps P Γ ops r ρ k
    | false => match putD o.dst (.tu []) τ with
      | some ρ => runOps P Γ ops r ρ k
      | none => false

def iter : Nat → (St → K → Bool) → St → K → Bool
  | 0, _, _, _ => false
  | n + 1, f, σ, k => f σ fun e τ => match e with
    | .nrm => iter n f τ k
    | e => k e τ

def exec (P : Program) [Tb P] (Γ : FuncId → Option CT) (D : List Oper → St → (St → Bool) → Bool) (fuel : Nat) : Code → St → K → Bool
  | .skip, σ, k => k .nrm σ
  | .label _, σ, k => k .nrm σ
  | .region _ ops false, σ, k => runOps P Γ ops.toList ops.toList σ (k .nrm)
  | .region _ ops true, σ, k => D ops.toList σ (k .nrm)
  | .seq a b, σ, k => exec P Γ D fuel a σ fun e τ => match e with
    | .nrm => exec P Γ D fuel b τ k
    | e => k e τ
  | .cond c a b, σ, k => match ev P σ.fr c with
    | some (.sc (.b x)) => cond x (exec P Γ D fuel a σ k) (exec P Γ D fuel b σ k)
    | _ => false
  | .block id c, σ, k => exec P Γ D fuel c σ fun e τ => match e with
    | .exit i => cond (Nat.beq i id) (k .nrm τ) (k (.exit i) τ)
    | e => k e τ
  | .loop c, σ, k => iter fuel (exec P Γ D fuel c) σ k
  | .exit id, σ, k => k (.exit id) σ
  | .ret, σ, k => k .ret σ
  | _, _, _ => false

def resC (P : Program) [Tb P] (σ : St) : List ResultVar → Option (Bool × List V)
  | [] => some (true, [])
  | .tmp t :: r =>
    match σ.fr.get t, resC P σ r with
    | some v, some (c, l) => some (c, v :: l)
    | _, _ => none
  | .cell a t :: r =>
    match (σ.fr.get a).bind (loadC P σ.h t), resC P σ r with
    | some (b, v), some (c, l) => some (b && c, v :: l)
    | _, _ => none

def tupV : List V → V
  | [v] => v
  | l => .tu l

def mkFr : Nat → List V → T V → T V
  | _, [], t => t
  | i, v :: r, t => mkFr (i + 1) r (t.set i v)

def okFn (fn : Func) : Bool := !(fn.name == "runtime.NumGoroutine")

/-- A function by its body. -/
def bodyF (P : Program) [Tb P] (Γ : FuncId → Option CT) (D : List Oper → St → (St → Bool) → Bool) (fuel : Nat) (f : FuncId) : CT := fun args h k =>
  match P.funcs[f]? with
  | none => false
  | some fn => cond (okFn fn && Nat.ble args.length fn.ntmps) (match fn.body with
    | none => false
    | some c => exec P Γ D fuel c ⟨mkFr 0 args .l, fn.ntmps, h⟩ fun e σ => match e with
      | .exit _ => false
      | _ => match resC P σ fn.results.toList with
        | some (c, l) => cond c (k (tupV l) σ.h) false
        | none => false) false

/-- All functions by their bodies, so many calls deep; some by contracts of their own. -/
def calls (P : Program) [Tb P] (over : FuncId → Option CT) (D : (FuncId → Option CT) → List Oper → St → (St → Bool) → Bool) (fuel : Nat) : Nat → FuncId → Option CT
  | 0, f => over f
  | n + 1, f => match over f with
    | some F => some F
    | none => some (bodyF P (calls P over D fuel n) (D (calls P over D fuel n)) fuel f)

end
end Go.Proofs.YteionboacdkfjaaDoor.X
