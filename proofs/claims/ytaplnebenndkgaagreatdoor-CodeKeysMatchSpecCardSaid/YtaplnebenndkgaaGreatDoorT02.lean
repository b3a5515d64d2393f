/- A compiler from bodies of Go functions into a small language of values and blocks, and the proof that a run of the compiled text is a run of the program. Conditions: none. Rules for runs of the small language over a partly known heap, and what the functions on the way of the law compute. Conditions: none. -/
import Derived.Test.YtaplnebenndkgaaGreatDoorT01
set_option linter.all false
namespace Go.RI
structure Fr where
  tm : Tr AV
  df : List Nat
inductive ARes where
  | tmp (t : Nat)
  | cell (t : Nat) (size : Option Nat)
structure AFn where
  ntmps : Nat
  body : ACode
  results : List ARes
def putT (tm : Tr AV) (d : Option Nat) (v : AV) : Tr AV := match d with
  | some t => tm.set v t
  | none => tm
def initT : List AV → Nat → Tr AV → Tr AV
  | [], _, t => t
  | v :: l, i, t => initT l (Nat.succ i) (t.set v i)
def setParams (n : Nat) : List Nat → List AV → Tr AV → Option (Tr AV)
  | [], [], t => some t
  | p :: ps, v :: vs, t => match Nat.blt p n with
    | true => setParams n ps vs (t.set v p)
    | false => none
  | _, _, _ => none
def wantedA (tm : Tr AV) : Option (Nat × Bool) → Bool
  | none => true
  | some (g, w) => match ev tm (.tmp g) with
    | .bool b => b == w
    | _ => false
def blockOf : AV → List Nat
  | .ptr b _ => [b]
  | .slice b _ _ _ _ => [b]
  | .map b => [b]
  | _ => []
def readsOf (op : AOp) (tm : Tr AV) : List Nat :=
  match op with
  | .load1 a | .loadN _ a => blockOf (ev tm a)
  | .toStr x | .ptrUs x | .usPtr _ x => blockOf (ev tm x)
  | .lookup _ _ _ m _ => blockOf (ev tm m)
  | .mapUpd _ m _ _ => blockOf (ev tm m)
  | .mapEnt _ _ m _ => blockOf (ev tm m)
  | .entSt m _ _ => blockOf (ev tm m)
  | .rangeMap m => blockOf (ev tm m)
  | .len _ m => blockOf (ev tm m)
  | .app _ _ _ _ s x => blockOf (ev tm s) ++ blockOf (ev tm x)
  | .copy _ d s => blockOf (ev tm d) ++ blockOf (ev tm s)
  | .store _ a _ => blockOf (ev tm a)
  | .usStr _ x _ => blockOf (ev tm x)
  | .delete _ m _ => blockOf (ev tm m)
  | .cutArr _ _ x _ _ => blockOf (ev tm x)
  | _ => []
inductive Cls where
  | pure | load | chain
def clsOf : AOp → Cls
  | .load1 _ | .loadN .. | .len .mp _ | .toStr _ | .lookup .int .. | .lookup .str .. | .lookup (.struct _) .. => .load
  | .mv _ | .pick .. | .alloc .. | .box .. | .build .. | .buildSlice .. | .nilck _ | .bin .. | .un .. | .toInt .. | .toBytes .. | .strId _ | .mkIface .. | .mkFunc .. | .mkMap | .mkSlice .. | .cutStr .. | .cutSl .. => .pure
  | .fieldAddr .. | .field .. | .idxArr .. | .idxSl .. | .idxStr .. | .idxAgg .. | .extract .. | .lenC _ | .minI .. | .maxI .. | .len .num _ | .len .sl _ | .runeStr _ => .pure
  | _ => .chain
structure Eff where
  cls : Cls
  rd : List Nat
  wr : List Nat
  lo : Nat
  hi : Nat
def meets (l r : List Nat) : Bool := match l with
  | [] => false
  | x :: l => match memN x r with
    | true => true
    | false => meets l r
def anyIn (lo hi : Nat) : List Nat → Bool
  | [] => false
  | x :: l => (Nat.ble lo x && Nat.blt x hi) || anyIn lo hi l
def clash (a b : Eff) : Bool := match a.cls, b.cls with
  | .chain, .chain => true
  | .chain, .load => meets a.wr b.rd
  | .chain, .pure => anyIn b.lo b.hi a.wr
  | .load, .chain => meets b.wr a.rd
  | _, _ => false
def clashes (e : Eff) : List (Nat × Eff) → List Nat → Bool
  | [], _ => false
  | (i, f) :: es, un => match memN i un with
    | true => match clash e f with
      | true => true
      | false => clashes e es un
    | false => clashes e es un
abbrev Fns := Nat → Option AFn
abbrev Oracle := Nat → List AV → St → Option (AV × St)
section
variable (fs : Fns) (orc : Oracle)
def resultsA (tm : Tr AV) (st : St) : List ARes → Option (List AV)
  | [] => some []
  | .tmp t :: l => match resultsA tm st l with
    | some r => some (ev tm (.tmp t) :: r)
    | none => none
  | .cell t n :: l => match ev tm (.tmp t) with
    | .ptr b off => match (match n with
        | none => st.rd b off
        | some n => match st.rdN b off n with
          | some c => some (.agg c)
          | none => none) with
      | some v => match resultsA tm st l with
        | some r => some (v :: r)
        | none => none
      | none => none
    | _ => none
def tupleA : List AV → AV
  | [v] => v
  | l => .tuple l
def stepOp (callF : AV → List AV → St → Option (AV × St)) (o : AOper) (fr : Fr) (st : St) : Option (Fr × St) :=
  match wantedA fr.tm o.guard with
  | false => some ({ fr with tm := putT fr.tm o.dst undefA }, st)
  | true => match o.op with
    | .call f args => match callF (ev fr.tm f) (evL fr.tm args) st with
      | some (v, st') => some ({ fr with tm := putT fr.tm o.dst v }, st')
      | none => none
    | op => match aop op fr.tm st with
      | some (v, st') => some ({ fr with tm := putT fr.tm o.dst v }, st')
      | none => none
def runOps (callF : AV → List AV → St → Option (AV × St)) : List AOper → Fr → St → Option (Fr × St)
  | [], fr, st => some (fr, st)
  | o :: l, fr, st => match stepOp callF o fr st with
    | some (fr', st') => runOps callF l fr' st'
    | none => none
def filtLt (n : Nat) : List Nat → List Nat
  | [] => []
  | x :: l => match Nat.blt x n with
    | true => x :: filtLt n l
    | false => filtLt n l
def effOf (o : AOper) (fr : Fr) (lo hi : Nat) (log : List Nat) : Eff := match wantedA fr.tm o.guard with
  | false => ⟨.pure, [], [], lo, hi⟩
  | true => ⟨clsOf o.op, readsOf o.op fr.tm, log, lo, hi⟩
def runDraw (callF : AV → List AV → St → Option (AV × St)) : List AOper → List (List Nat) → Nat → List (Nat × Eff) → Fr → St → Option (Fr × St)
  | [], _, _, _, fr, st => some (fr, st)
  | o :: l, u :: us, i, es, fr, st =>
    match stepOp callF o fr { st with thr := st.next, log := [] } with
    | some (fr', st') =>
      let e := effOf o fr st.next st'.next st'.log
      match clashes e es u with
      | true => none
      | false => runDraw callF l us (Nat.succ i) ((i, e) :: es) fr' { st' with thr := st.thr, log := filtLt st.thr st'.log ++ st.log }
    | none => none
  | _ :: _, [], _, _, _, _ => none
def leaveA (res : List ARes) (tm : Tr AV) : List Nat → St → Option (AV × St)
  | [], st => match resultsA tm st res with
    | some l => some (tupleA l, st)
    | none => none
  | b :: ds, st => match st.heap.get b with
    | some (.dfr false) => leaveA res tm ds (st.putObj b (.dfr true))
    | _ => none
def enterA (R : ACode → Fr → St → Option (AOut × Fr × St)) (fn : AFn) (as : List AV) (st : St) : Option (AV × St) :=
  match R fn.body { tm := initT as 0 .e, df := [] } st with
  | some (.normal, fr', st') => leaveA fn.results fr'.tm fr'.df st'
  | some (.ret, fr', st') => leaveA fn.results fr'.tm fr'.df st'
  | _ => none
def roundA (R : ACode → Fr → St → Option (AOut × Fr × St)) (l : Nat) (args : List AV) (st : St) : Option (AV × St) :=
  match st.heap.get l with
  | some (.loop .ready _ n tm ps as bd _) => match setParams n ps args tm with
    | some tm' => match R as { tm := tm', df := [] } st with
      | some (.normal, fr1, st1) => match st1.heap.get l with
        | some (.loop .ready pend n1 tm1 ps1 as1 bd1 df1) => match R bd fr1 (st1.putObj l (.loop .busy pend n1 tm1 ps1 as1 bd1 df1)) with
          | some (out, _, st2) => match st2.heap.get l with
            | some (.loop .busy _ n2 tm2 ps2 as2 bd2 df2) => match out with
              | .normal => some (.bool true, st2.putObj l (.loop .ready none n2 tm2 ps2 as2 bd2 df2))
              | o => some (.bool false, st2.putObj l (.loop .done (some o) n2 tm2 ps2 as2 bd2 df2))
            | _ => none
          | none => none
        | _ => none
      | _ => none
    | none => none
  | _ => none
def callBy (R : ACode → Fr → St → Option (AOut × Fr × St)) (f : AV) (args : List AV) (st : St) : Option (AV × St) :=
  match f with
  | .func (.func g) first cap => match orc g (first ++ args ++ cap) st with
    | some r => some r
    | none => match fs g with
      | some fn => enterA R fn (first ++ args ++ cap) st
      | none => none
  | .yld l => roundA R l args st
  | _ => none
def goOn (fr : Fr) (st : St) : Option AOut → Option (AOut × Fr × St)
  | none => some (.normal, fr, st)
  | some o => some (o, fr, st)
def run : Nat → ACode → Fr → St → Option (AOut × Fr × St)
  | 0, _, _, _ => none
  | n + 1, c, fr, st =>
    match c with
    | .skip => some (.normal, fr, st)
    | .region ops => match runOps (callBy fs orc (run n)) ops fr st with
      | some (fr', st') => some (.normal, fr', st')
      | none => none
    | .draw ops un => match runDraw (callBy fs orc (run n)) ops un 0 [] fr st with
      | some (fr', st') => some (.normal, fr', st')
      | none => none
    | .seq a b => match run n a fr st with
      | some (.normal, fr', st') => run n b fr' st'
      | r => r
    | .cond x a b => match ev fr.tm x with
      | .bool true => run n a fr st
      | .bool false => run n b fr st
      | _ => none
    | .block id b => match run n b fr st with
      | some (.exit id', fr', st') => match Nat.beq id' id with
        | true => some (.normal, fr', st')
        | false => some (.exit id', fr', st')
      | r => r
    | .loop b => match run n b fr st with
      | some (.normal, fr', st') => run n (.loop b) fr' st'
      | r => r
    | .scope b => run n b fr st
    | .exit id => some (.exit id, fr, st)
    | .ret => some (.ret, fr, st)
    | .bad => none
    | .range N f ps as bd =>
      let st1 := st.new (.dfr false)
      let st2 := st1.new (.loop .ready none N fr.tm ps as bd st.next)
      match ev fr.tm f with
      | .func (.func g) first cap => match fs g with
        | some fn => match enterA (run n) fn (first ++ [.yld st1.next] ++ cap) st2 with
          | some (_, st3) => match st3.heap.get st1.next with
            | some (.loop s pend N' tm ps' as' bd' df) => match s with
              | .busy => none
              | _ =>
                let st4 := st3.putObj st1.next (.loop .exhausted pend N' tm ps' as' bd' df)
                goOn { fr with df := st.next :: fr.df } st4 pend
            | _ => none
          | none => none
        | none => none
      | _ => none
end
structure TI where
  und : TypeDesc
  size : Nat
  bytes : Nat
  zero : AV
  within : List (Nat × Nat)
  plain : Bool
abbrev TT := Nat → Option TI
def TI.agg (i : TI) : Bool := match i.und with
  | .struct _ => true
  | .array .. => true
  | _ => false
mutual
def avOf : Value → Option AV
  | .bool b => some (.bool b)
  | .int k n => some (.int k n)
  | .string s => some (.str (s.data.toList.map UInt8.toNat))
  | .pointer none => some .nilp
  | .slice none 0 0 => some .nils
  | .map none => some .nilm
  | .nilFunc => some .nilf
  | .nilIface => some .nili
  | .func f ⟨[]⟩ ⟨[]⟩ => some (.func f [] [])
  | .agg ⟨l⟩ => match avOfL l with
    | some r => some (.agg r)
    | none => none
  | .tuple ⟨l⟩ => match avOfL l with
    | some r => some (.tuple r)
    | none => none
  | .iface t v => match avOf v with
    | some r => some (.iface t r)
    | none => none
  | _ => none
def avOfL : List Value → Option (List AV)
  | [] => some []
  | v :: l => match avOf v, avOfL l with
    | some r, some rs => some (r :: rs)
    | _, _ => none
end
def rnd (G : Nat) : Operand → Option Rnd
  | .tmp t => some (.tmp t)
  | .const v => match avOf v with
    | some a => some (.con a)
    | none => none
  | .global g => if g < G then some (.con (.ptr g 0)) else none
  | .func f => some (.fn f)
def rndL (G : Nat) : List Operand → Option (List Rnd)
  | [] => some []
  | x :: l => match rnd G x, rndL G l with
    | some r, some rs => some (r :: rs)
    | _, _ => none
def rndO (G : Nat) : Option Operand → Option (Option Rnd)
  | none => some none
  | some x => match rnd G x with
    | some r => some (some r)
    | none => none
section
variable (G : Nat) (tt : TT)
def partsS (fields : Array Field) : List (Nat × Operand) → Option (List (Nat × Nat × Rnd))
  | [] => some []
  | (i, x) :: l => match fields[i]?, rnd G x, partsS fields l with
    | some f, some r, some rs => match tt f.type with
      | some ti => some ((f.offset, ti.size, r) :: rs)
      | none => none
    | _, _, _ => none
def allTyped : List Field → Bool
  | [] => true
  | f :: l => (tt f.type).isSome && allTyped l
def partsA (size : Nat) : List (Nat × Operand) → Option (List (Nat × Nat × Rnd))
  | [] => some []
  | (i, x) :: l => match rnd G x, partsA size l with
    | some r, some rs => some ((i * size, size, r) :: rs)
    | _, _ => none
def plainFields : List Field → Nat → Option (List Bool)
  | [], _ => some []
  | f :: l, i => if f.offset == i && f.name != "_" then
      match tt f.type, plainFields l (i + 1) with
      | some ti, some ks => if ti.size == 1 then (match ti.und with
        | .int _ => some (true :: ks)
        | .string => some (false :: ks)
        | _ => none) else none
      | _, _ => none
    else none
def kkOf (t : TypeId) : Option KK := match tt t with
  | some ti => match ti.und with
    | .int _ => some .int
    | .string => some .str
    | .struct fs => if ti.plain then (plainFields tt fs.toList 0).map .struct else none
    | .pointer e => match tt e with
      | some te => if te.size ≠ 0 then some .ptr else none
      | none => none
    | _ => none
  | none => none
def isC : Operand → Bool
  | .const _ => true
  | _ => false
def compBin (op : BinOp) (t : TypeId) (x y : Operand) : Option AOp :=
  match rnd G x, rnd G y, tt t with
  | some a, some b, some ti => match ti.und with
    | .int _ | .string => some (.bin .num op a b)
    | .bool => some (.bin .bool op a b)
    | .slice _ => some (.bin .sl op a b)
    | .map .. => some (.bin .mp op a b)
    | .func .. => some (.bin .fn op a b)
    | .pointer e => match tt e with
      | some te => if te.size ≠ 0 then some (.bin .ptr op a b) else none
      | none => none
    | .interface _ => if isC x || isC y then some (.bin .ifc op a b) else none
    | .struct fs => if ti.plain then (plainFields tt fs.toList 0).map fun ks => .bin (.st ks) op a b else none
    | _ => none
  | _, _, _ => none
def compConv (s d : TypeId) (x : Operand) : Option AOp :=
  match rnd G x, tt s, tt d with
  | some a, some si, some di => match si.und, di.und with
    | .int _, .int k => some (.toInt k a)
    | .string, .string => some (.strId a)
    | .int _, .string => some (.runeStr a)
    | .slice e, .string => match tt e with
      | some ei => match ei.und with
        | .int .u8 => some (.toStr a)
        | _ => none
      | none => none
    | .string, .slice e => match tt e with
      | some ei => match ei.und with
        | .int .u8 => some (.toBytes e a)
        | _ => none
      | none => none
    | _, _ => none
  | _, _, _ => none
def compBuiltin (b : Builtin) (args : List Operand) (argTypes : List TypeId) : Option AOp :=
  match b, args, argTypes with
  | .len, [x], t :: _ => match rnd G x, tt t with
    | some a, some ti => match ti.und with
      | .array n _ => some (.lenC n)
      | .pointer arr => match tt arr with
        | some ai => match ai.und with
          | .array n _ => some (.lenC n)
          | _ => none
        | none => none
      | .string => some (.len .num a)
      | .slice _ => some (.len .sl a)
      | .map .. => some (.len .mp a)
      | _ => none
    | _, _ => none
  | .append, [s, x], ts :: tx :: _ => match rnd G s, rnd G x, tt ts, tt tx with
    | some a, some b, some si, some xi => match si.und, xi.und with
      | .slice _, .int _ => none
      | .slice e, _ => match tt e with
        | some ei => some (.app e ei.size ei.bytes ei.zero.cells a b)
        | none => none
      | _, _ => none
    | _, _, _, _ => none
  | .copy, [d, s], td :: _ => match rnd G d, rnd G s, tt td with
    | some a, some b, some di => match di.und with
      | .slice e => match tt e with
        | some ei => some (.copy ei.size a b)
        | none => none
      | _ => none
    | _, _, _ => none
  | .min, [x, y], _ => match rnd G x, rnd G y with
    | some a, some b => some (.minI a b)
    | _, _ => none
  | .max, [x, y], _ => match rnd G x, rnd G y with
    | some a, some b => some (.maxI a b)
    | _, _ => none
  | .clear, [x], t :: _ => match rnd G x, tt t with
    | some a, some ti => match ti.und with
      | .slice e => match tt e with
        | some ei => some (.clearSl ei.size ei.zero.cells a)
        | none => none
      | _ => none
    | _, _ => none
  | .delete, [m, k], t :: _ => match rnd G m, rnd G k, tt t with
    | some m, some k, some ti => match ti.und with
      | .map kt _ => (kkOf tt kt).map fun kk => .delete kk m k
      | _ => none
    | _, _, _ => none
  | _, _, _ => none
def compOp (o : Oper) : Option AOp :=
  match o.op with
  | .move x | .assign x => (rnd G x).map .mv
  | .pick c a b => match rnd G c, rnd G a, rnd G b with
    | some c, some a, some b => some (.pick c a b)
    | _, _, _ => none
  | .alloc e => (tt e).map fun ti => .alloc e ti.zero.cells
  | .box e x => (rnd G x).map fun a => .box e a
  | .build t parts => match tt t with
    | some ti => match ti.und with
      | .struct fields => if allTyped tt fields.toList then (partsS G tt fields parts.toList).map fun p => .build ti.zero.cells p else none
      | .array _ e => match tt e with
        | some ei => (partsA G ei.size parts.toList).map fun p => .build ti.zero.cells p
        | none => none
      | _ => none
    | none => none
  | .buildSlice t len parts => match tt t with
    | some ti => match ti.und with
      | .slice e => match tt e with
        | some ei => if len * ei.size > 2 ^ 24 then none else (partsA G ei.size parts.toList).map fun p => .buildSlice e len ei.size (List.replicate len ei.zero.cells).flatten p
        | none => none
      | _ => none
    | none => none
  | .insert t m k v | .mapUpdate t m k v => match tt t, rnd G m, rnd G k, rnd G v with
    | some ti, some m, some k, some v => match ti.und with
      | .map kt _ => (kkOf tt kt).map fun kk => .mapUpd kk m k v
      | _ => none
    | _, _, _, _ => none
  | .load t a => match tt t, rnd G a with
    | some ti, some a => some (if ti.agg then .loadN ti.size a else .load1 a)
    | _, _ => none
  | .store t a x => match tt t, rnd G a, rnd G x with
    | some ti, some a, some x => some (.store ti.size a x)
    | _, _, _ => none
  | .nilCheck x => (rnd G x).map .nilck
  | .binOp op t x y _ => compBin G tt op t x y
  | .unOp op _ x => (rnd G x).map (.un op)
  | .convert s d x => compConv G tt s d x
  | .makeInterface t x => match tt t, rnd G x with
    | some ti, some a => match ti.und with
      | .interface _ => none
      | _ => some (.mkIface t a)
    | _, _ => none
  | .makeFunc f a b => match rndL G a.toList, rndL G b.toList with
    | some a, some b => some (.mkFunc f a b)
    | _, _ => none
  | .makeMap t r => match tt t with
    | some ti => match ti.und, r with
      | .map .., none => some .mkMap
      | .map .., some (.const (.int _ _)) => some .mkMap
      | _, _ => none
    | none => none
  | .makeSlice t l c => match tt t, rnd G l, rnd G c with
    | some ti, some l, some c => match ti.und with
      | .slice e => (tt e).map fun ei => .mkSlice e ei.size ei.bytes ei.zero.cells l c
      | _ => none
    | _, _, _ => none
  | .slice t x lo hi mx => match tt t, rnd G x, rndO G lo, rndO G hi, rndO G mx with
    | some ti, some x, some lo, some hi, some mx => match ti.und, mx with
      | .string, none => some (.cutStr x lo hi)
      | .slice e, none => (tt e).map fun ei => .cutSl ei.size x lo hi none
      | .slice e, some mx => if hi.isSome then (tt e).map fun ei => .cutSl ei.size x lo hi (some mx) else none
      | .array n e, none => (tt e).map fun ei => .cutArr n ei.size x lo hi
      | _, _ => none
    | _, _, _, _, _ => none
  | .fieldAddr t x f => match tt t, rnd G x with
    | some ti, some x => match ti.und with
      | .struct fields => match fields[f]? with
        | some fd => match tt fd.type with
          | some fi => if fi.size = 0 then none else some (.fieldAddr fd.offset x)
          | none => none
        | none => none
      | _ => none
    | _, _ => none
  | .field t x f => match tt t, rnd G x with
    | some ti, some x => match ti.und with
      | .struct fields => match fields[f]? with
        | some fd => (tt fd.type).map fun fi => .field fi.agg fd.offset fi.size x
        | none => none
      | _ => none
    | _, _ => none
  | .indexAddr t x i => match tt t, rnd G x, rnd G i with
    | some ti, some x, some i => match ti.und with
      | .array n e => (tt e).map fun ei => .idxArr n ei.size x i
      | .slice e => (tt e).map fun ei => .idxSl ei.size x i
      | _ => none
    | _, _, _ => none
  | .index t x i => match tt t, rnd G x, rnd G i with
    | some ti, some x, some i => match ti.und with
      | .array n e => (tt e).map fun ei => .idxAgg ei.agg n ei.size x i
      | .string => some (.idxStr x i)
      | _ => none
    | _, _, _ => none
  | .lookup t x i ok => match tt t, rnd G x, rnd G i with
    | some ti, some x, some i => match ti.und with
      | .map kt e => match kkOf tt kt, tt e with
        | some kk, some ei => some (.lookup kk ei.zero ok x i)
        | _, _ => none
      | _ => none
    | _, _, _ => none
  | .mapEntry t m k => match tt t, rnd G m, rnd G k with
    | some ti, some m, some k => match ti.und with
      | .map kt e => match kkOf tt kt, tt e with
        | some kk, some ei => some (.mapEnt kk ei.zero m k)
        | _, _ => none
      | _ => none
    | _, _, _ => none
  | .entryStore _ m s v => match rnd G m, rnd G s, rnd G v with
    | some m, some s, some v => some (.entSt m s v)
    | _, _, _ => none
  | .range t x => match tt t, rnd G x with
    | some ti, some x => match ti.und with
      | .string => some (.rangeStr x)
      | .map .. => some (.rangeMap x)
      | _ => none
    | _, _ => none
  | .next it isS => (rnd G it).map fun a => if isS then .nextStr a else .nextMap a
  | .entry it => (rnd G it).map .entry
  | .extract t i => (rnd G t).map (.extract i)
  | .call { callee := .value f, args, .. } => match rnd G f, rndL G args.toList with
    | some f, some as => some (.call f as)
    | _, _ => none
  | .call { callee := .builtin b, args, argTypes } => compBuiltin G tt b args.toList argTypes.toList
  | _ => none
def guardOf (ops : Array Oper) : Option (Nat × Bool) → Option (Option (Nat × Bool))
  | none => some none
  | some (j, w) => match (ops[j]?).bind (·.dst) with
    | some t => some (some (t, w))
    | none => none
def dstOk (N : Nat) : Option Nat → Bool
  | none => true
  | some d => Nat.blt d N
def compOper (N : Nat) (ops : Array Oper) (o : Oper) : Option AOper :=
  match guardOf ops o.guard, dstOk N o.dst with
  | some g, true => some { op := (compOp G tt o).getD .bad, dst := o.dst, guard := g }
  | _, _ => none
def compOpers (N : Nat) (ops : Array Oper) : List Oper → Option (List AOper)
  | [] => some []
  | o :: l => match compOper G tt N ops o, compOpers N ops l with
    | some a, some as => some (a :: as)
    | _, _ => none
def directs (o : Oper) : List Nat := (o.after.toList.filter (Region.binds .any)).map (·.on)
def predsOf (acc : List (List Nat)) (o : Oper) : List Nat := (directs o).flatMap fun j => j :: (acc.getD j [])
def predsAll : List Oper → List (List Nat) → List (List Nat)
  | [], acc => acc
  | o :: l, acc => predsAll l (acc ++ [predsOf acc o])
def preds (ops : Array Oper) : List (List Nat) := predsAll ops.toList []
def unordered (ops : Array Oper) : List (List Nat) :=
  let p := preds ops
  (List.range ops.size).map fun i => (List.range i).filter fun j => !(memN j (p.getD i []))
def rndT : Rnd → List Nat
  | .tmp t => [t]
  | _ => []
def rndOT : Option Rnd → List Nat
  | some r => rndT r
  | none => []
def rndsT : List Rnd → List Nat
  | [] => []
  | r :: l => rndT r ++ rndsT l
def partsT : List (Nat × Nat × Rnd) → List Nat
  | [] => []
  | (_, _, r) :: l => rndT r ++ partsT l
def AOp.tmps : AOp → List Nat
  | .mv x | .box _ x | .load1 x | .loadN _ x | .nilck x | .un _ x | .toInt _ x | .toStr x | .runeStr x | .toBytes _ x | .strId x | .ptrUs x | .usPtr _ x | .mkIface _ x
  | .fieldAddr _ x | .field _ _ _ x | .rangeMap x | .rangeStr x | .nextMap x | .nextStr x | .entry x | .extract _ x | .len _ x | .clearSl _ _ x | .usData x => rndT x
  | .pick c a b | .mapUpd _ c a b | .entSt c a b => rndT c ++ (rndT a ++ rndT b)
  | .build _ p | .buildSlice _ _ _ _ p => partsT p
  | .store _ a x | .bin _ _ a x | .idxArr _ _ a x | .idxSl _ a x | .idxStr a x | .idxAgg _ _ _ a x | .lookup _ _ _ a x | .mapEnt _ _ a x | .app _ _ _ _ a x | .copy _ a x | .minI a x | .maxI a x | .delete _ a x
  | .usStr _ a x | .mkSlice _ _ _ _ a x => rndT a ++ rndT x
  | .mkFunc _ a b => rndsT a ++ rndsT b
  | .cutStr x lo hi => rndT x ++ (rndOT lo ++ rndOT hi)
  | .cutSl _ x lo hi mx => rndT x ++ (rndOT lo ++ (rndOT hi ++ rndOT mx))
  | .cutArr _ _ x lo hi => rndT x ++ (rndOT lo ++ rndOT hi)
  | .call f as | .defer f as => rndT f ++ rndsT as
  | .alloc .. | .mkMap | .lenC _ | .recov | .bad => []
def AOper.looks (o : AOper) : List Nat := match o.guard with
  | some (g, _) => g :: o.op.tmps
  | none => o.op.tmps
def apartD (d : Option Nat) (o : AOper) : Bool := match d with
  | some t => !(memN t o.looks) && o.dst != some t
  | none => true
def apartA (as : List AOper) (un : List (List Nat)) : Bool :=
  (un.zipIdx).all fun (u, i) => u.all fun j => match as[i]?, as[j]? with
    | some x, some y => apartD x.dst y && apartD y.dst x
    | _, _ => false
def makes : AOp → Bool
  | .alloc .. | .box .. | .buildSlice .. | .toBytes .. | .mkMap | .mkSlice .. => true
  | _ => false
def mayClash (a b : AOper) : Bool := match clsOf a.op, clsOf b.op with
  | .chain, .chain => true
  | .chain, .load => true
  | .chain, .pure => makes b.op
  | .load, .chain => true
  | _, _ => false
def relevant (as : List AOper) (un : List (List Nat)) : List (List Nat) := un.zipIdx.map fun (u, i) => u.filter fun j => match as[i]?, as[j]? with
  | some a, some b => mayClash a b
  | _, _ => true
def backAll (ops : Array Oper) : Bool := (ops.toList.zipIdx).all fun (o, i) => (directs o).all fun d => Nat.blt d i
def noSel (ops : Array Oper) : Bool := ops.toList.all fun o => match o.op with
  | .select .. => false
  | _ => true
def apartAll (ops : Array Oper) (un : List (List Nat)) : Bool :=
  backAll ops && noSel ops && (un.zipIdx).all fun (u, i) => u.all fun j => (ops.getD i default).apart ops (ops.getD j default)
def allLt (N : Nat) : List Nat → Bool
  | [] => true
  | x :: l => Nat.blt x N && allLt N l
def compCode (N : Nat) : Bool → Code → Option ACode
  | _, .skip => some .skip
  | _, .label _ => some .skip
  | _, .region _ ops draw => match compOpers G tt N ops ops.toList with
    | some l => if draw then
        let un := unordered ops
        if apartAll ops un && apartA l un then some (.draw l (relevant l un)) else none
      else some (.region l)
    | none => none
  | ir, .seq a b => match compCode N ir a, compCode N ir b with
    | some a, some b => some (.seq a b)
    | _, _ => none
  | ir, .cond c a b => match rnd G c, compCode N ir a, compCode N ir b with
    | some c, some a, some b => some (.cond c a b)
    | _, _, _ => none
  | ir, .block id b => (compCode N ir b).map (.block id)
  | ir, .loop b => (compCode N ir b).map .loop
  | ir, .scope b => (compCode N ir b).map .scope
  | _, .exit id => some (.exit id)
  | _, .ret => some .ret
  | false, .rangeFunc f ps as bd => match rnd G f, compCode N true as, compCode N true bd, allLt N ps.toList with
    | some f, some as, some bd, true => some (.range N f ps.toList as bd)
    | _, _, _, _ => none
  | _, _ => some .bad
def compRes : List ResultVar → Option (List ARes)
  | [] => some []
  | .tmp t :: l => (compRes l).map (.tmp t :: ·)
  | .cell a t :: l => match tt t, compRes l with
    | some ti, some r => some (.cell a (if ti.agg then some ti.size else none) :: r)
    | _, _ => none
def compFn (fn : Func) : Option AFn := match fn.body with
  | some c => match compCode G tt fn.ntmps false c, compRes tt fn.results.toList with
    | some b, some r => some { ntmps := fn.ntmps, body := b, results := r }
    | _, _ => none
  | none => none
end
end Go.RI
namespace Go.RI.Zs
abbrev t (n : Nat) : Rnd := .tmp n
abbrev i (n : Nat) : Rnd := .con (.int .i64 (.ofNat n))
abbrev y (n : Nat) : Rnd := .con (.int .u8 (.ofNat n))
abbrev s (l : List Nat) : Rnd := .con (.str l)
abbrev tt : Rnd := .con (.bool true)
abbrev ff : Rnd := .con (.bool false)
abbrev f (n : Nat) : Rnd := .fn n
noncomputable def tl : List Nat → List Rnd := @List.rec Nat (fun _ => List Rnd) [] (fun n _ ih => .tmp n :: ih)
theorem tl_nil : tl [] = [] := rfl
theorem tl_cons (n : Nat) (l : List Nat) : tl (n :: l) = .tmp n :: tl l := rfl
abbrev M (a d : Nat) : AOper := ⟨.mv (.tmp a), some d, none⟩
abbrev N (x : Rnd) (d : Nat) : AOper := ⟨.mv x, some d, none⟩
abbrev L (a d : Nat) : AOper := ⟨.load1 (.tmp a), some d, none⟩
abbrev Q (n a d : Nat) : AOper := ⟨.loadN n (.tmp a), some d, none⟩
abbrev A (o a d : Nat) : AOper := ⟨.fieldAddr o (.tmp a), some d, none⟩
abbrev K (a d : Nat) : AOper := ⟨.nilck (.tmp a), some d, none⟩
abbrev V (a d : Nat) : AOper := ⟨.len .sl (.tmp a), some d, none⟩
abbrev W (a d : Nat) : AOper := ⟨.len .num (.tmp a), some d, none⟩
abbrev X (n a d : Nat) : AOper := ⟨.extract n (.tmp a), some d, none⟩
abbrev E (a n d : Nat) : AOper := ⟨.bin .num .eql (.tmp a) (i n), some d, none⟩
abbrev F (a n d : Nat) : AOper := ⟨.bin .num .neq (.tmp a) (i n), some d, none⟩
abbrev I (a d : Nat) : AOper := ⟨.bin .num .add (.tmp a) (i 1), some d, none⟩
abbrev J (a b d : Nat) : AOper := ⟨.bin .num .lss (.tmp a) (.tmp b), some d, none⟩
abbrev B (op : BinOp) (x z : Rnd) (d : Nat) : AOper := ⟨.bin .num op x z, some d, none⟩
abbrev P (a b d : Nat) : AOper := ⟨.pick (.tmp a) (.tmp b) ff, some d, none⟩
abbrev U (a b d : Nat) : AOper := ⟨.pick (.tmp a) tt (.tmp b), some d, none⟩
abbrev Y (es a : Nat) (x : Rnd) (d : Nat) : AOper := ⟨.idxSl es (.tmp a) x, some d, none⟩
abbrev C (g : Nat) (as : List Rnd) (d : Nat) : AOper := ⟨.call (.fn g) as, some d, none⟩
noncomputable abbrev c (g : Nat) (as : List Nat) (d : Nat) : AOper := ⟨.call (.fn g) (tl as), some d, none⟩
abbrev D (e : Nat) (z : List AV) (d : Nat) : AOper := ⟨.alloc e z, some d, none⟩
abbrev b (e a d : Nat) : AOper := ⟨.box e (.tmp a), some d, none⟩
abbrev n (a d : Nat) : AOper := ⟨.un .not (.tmp a), some d, none⟩
abbrev O (op : AOp) (d : Nat) : AOper := ⟨op, some d, none⟩
abbrev o (op : AOp) : AOper := ⟨op, none, none⟩
abbrev S (m a : Nat) (x : Rnd) : AOper := ⟨.store m (.tmp a) x, none, none⟩
abbrev G (g : Nat) (x : AOper) : AOper := match x with | ⟨a, d, _⟩ => ⟨a, d, some (g, true)⟩
abbrev H (g : Nat) (x : AOper) : AOper := match x with | ⟨a, d, _⟩ => ⟨a, d, some (g, false)⟩
abbrev r (l : List AOper) : ACode := .region l
abbrev w (l : List AOper) (u : List (List Nat)) : ACode := .draw l u
abbrev q (a b : ACode) : ACode := .seq a b
abbrev k (n : Nat) (a b : ACode) : ACode := .cond (.tmp n) a b
abbrev l (n : Nat) (a : ACode) : ACode := .block n a
abbrev p (a : ACode) : ACode := .loop a
abbrev x (n : Nat) : ACode := .exit n
end Go.RI.Zs
namespace Go.RI.Fx
open Zs
noncomputable section
def z0 : List AV := [.int .i64 (.ofNat 0),.bool false,.nils,.nils,.str [],.int .i64 (.ofNat 0)]
def z1 : List AV := [.int .i64 (.ofNat 0),.int .i64 (.ofNat 0),.str [],.bool false,.nils,.nils,.nils]
def z2 : List AV := [.int .i64 (.ofNat 0)]
def z3 : List AV := [.int .i64 (.ofNat 0),.int .i64 (.ofNat 0)]
def z4 : List AV := [.bool false,.nils,.nils]
def z5 : List AV := [.int .u8 (.ofNat 0)]
def z6 : List AV := [.int .u32 (.ofNat 0)]
def F3 : AFn := ⟨87,q (r [b 27 0 2,b 27 1 3,N ff 4]) (q (q (r [Q 7 2 7,c 4 [7] 8,F 8 0 9,M 9 10,H 10 (Q 7 3 11),H 10 (c 4 [11] 12),H 10 (F 12 0 13),U 10 13 14]) (k 14 (q (r [c 5 [] 15,M 15 4]) .ret) .skip)) (q (r [Q 7 2 16,c 6 [16] 17,D 32 z0 5,S 6 5 (t 17)]) (q (r [Q 7 2 18,c 7 [18] 19,D 32 z0 6,S 6 6 (t 19)]) (q (q (r [A 0 5 20,L 20 21,A 0 6 22,L 22 23,B .neq (t 21) (t 23) 24,M 24 25,H 25 (A 4 5 26),H 25 (L 26 27),H 25 (A 4 6 28),H 25 (L 28 29),H 25 (B .neq (t 27) (t 29) 30),U 25 30 31,M 31 32,H 32 (A 5 5 33),H 32 (L 33 34),H 32 (A 5 6 35),H 32 (L 35 36),H 32 (B .neq (t 34) (t 36) 37),U 32 37 38,M 38 39,H 39 (Q 6 5 40),H 39 (Q 7 2 41),H 39 (c 8 [40,41] 42),H 39 (n 42 43),U 39 43 44,M 44 45,H 45 (A 1 5 46),H 45 (A 1 46 47),H 45 (L 47 48),H 45 (V 48 49),H 45 (A 1 6 50),H 45 (A 1 50 51),H 45 (L 51 52),H 45 (V 52 53),H 45 (B .neq (t 49) (t 53) 54),U 45 54 55,M 55 56,H 56 (A 1 5 57),H 56 (A 2 57 58),H 56 (L 58 59),H 56 (V 59 60),H 56 (A 1 6 61),H 56 (A 2 61 62),H 56 (L 62 63),H 56 (V 63 64),H 56 (B .neq (t 60) (t 64) 65),U 56 65 66]) (k 66 (q (r [N ff 4]) .ret) .skip)) (q (w [Q 6 5 67,Q 7 3 68,c 9 [67,68] 69,Q 6 6 70,Q 7 3 71,c 8 [70,71] 72,O (.bin .bool .eql (t 69) (t 72)) 73,M 73 74,G 74 (Q 7 3 75),G 74 (c 6 [75] 76),G 74 (Q 7 2 77),G 74 (c 9 [76,77] 78),G 74 (Q 6 5 79),G 74 (Q 7 3 80),G 74 (c 9 [79,80] 81),G 74 (O (.bin .bool .eql (t 78) (t 81)) 82),P 74 82 83,M 83 84,G 84 (c 5 [] 85),P 84 85 86,M 86 4] [[],[],[],[2],[2],[],[],[],[],[],[9],[],[9,11],[9,11],[],[],[],[],[],[],[]]) .ret))))),[.tmp 4]⟩
def F4 : AFn := ⟨8,q (r [b 27 0 1,N (i 0) 2]) (q (q (r [Q 7 1 3,c 10 [3] 4,B .gtr (t 4) (i 10000) 5]) (k 5 (q (r [N (i 3) 2]) .ret) .skip)) (q (r [Q 7 1 6,c 11 [6] 7,M 7 2]) .ret)),[.tmp 2]⟩
def F10 : AFn := ⟨5,q (r [b 27 0 1,N (i 0) 2]) (q (r [Q 7 1 3,C 20 [t 3,i 0] 4,M 4 2]) .ret),[.tmp 2]⟩
def F20 : AFn := ⟨23,q (r [b 27 0 2,N (i 0) 4]) (q (r [M 1 7,I 7 8,M 8 1]) (q (q (r [A 6 2 9,L 9 10,V 10 11,N (i 0) 12]) (l 0 (p (q (r [J 12 11 13]) (q (k 13 .skip (x 0)) (q (l 1 (q (r [Y 7 10 (t 12) 14,Q 7 14 15,D 27 z1 6,S 7 6 (t 15)]) (q (q (r [M 1 16,B .geq (t 16) (i 1000000) 17]) (k 17 (q (r [N (i 1000000) 4]) .ret) .skip)) (r [Q 7 6 18,M 1 19,c 20 [18,19] 20,M 20 1])))) (r [I 12 21,M 21 12]))))))) (q (r [M 1 22,M 22 4]) .ret))),[.tmp 4]⟩
def F11 : AFn := ⟨138,q (r [b 27 0 1,N (i 0) 2]) (q (r [A 0 1 7,L 7 8,E 8 3 9,M 9 10,H 10 (A 0 1 11),H 10 (L 11 12),H 10 (E 12 4 13),U 10 13 14,M 14 15,H 15 (A 0 1 16),H 15 (L 16 17),H 15 (E 17 5 18),U 15 18 19,M 19 3]) (q (l 0 (q (r [A 0 1 21,L 21 22,B .lss (t 22) (i 1) 23,M 23 24,H 24 (A 0 1 25),H 24 (L 25 26),H 24 (B .gtr (t 26) (i 5) 27),U 24 27 28,M 28 20]) (k 20 (q (r [N (i 2) 2]) .ret) (q (r [A 0 1 30,L 30 31,F 31 1 32,M 32 33,G 33 (A 1 1 34),G 33 (L 34 35),G 33 (F 35 0 36),P 33 36 37,M 37 38,H 38 (A 1 1 39),H 38 (L 39 40),H 38 (B .lss (t 40) (i 0) 41),U 38 41 42,M 42 43,H 43 (A 1 1 44),H 43 (L 44 45),H 43 (B .gtr (t 45) (i 1073741824) 46),U 43 46 47,M 47 29]) (k 29 (q (r [N (i 2) 2]) .ret) (q (r [M 3 49,n 49 50,M 50 51,G 51 (A 2 1 52),G 51 (L 52 53),G 51 (B .neq (t 53) (s []) 54),P 51 54 55,M 55 56,H 56 (A 0 1 57),H 56 (L 57 58),H 56 (F 58 2 59),H 56 (M 59 60),G 60 (A 3 1 61),G 60 (Q 3 61 62),G 60 (c 21 [62] 63),G 60 (n 63 64),H 56 (P 60 64 65),U 56 65 66,M 66 48]) (k 48 (q (r [N (i 2) 2]) .ret) (q (r [A 0 1 68,L 68 69,E 69 2 70,M 70 71,G 71 (A 3 1 72),G 71 (Q 3 72 73),G 71 (c 22 [73] 74),G 71 (F 74 0 75),P 71 75 76,M 76 67]) (k 67 (q (r [N (i 2) 2]) .ret) (q (r [A 0 1 78,L 78 79,F 79 5 80,M 80 81,G 81 (A 6 1 82),G 81 (L 82 83),G 81 (V 83 84),G 81 (B .gtr (t 84) (i 0) 85),P 81 85 86,M 86 87,H 87 (A 0 1 88),H 87 (L 88 89),H 87 (E 89 5 90),H 87 (M 90 91),G 91 (A 6 1 92),G 91 (L 92 93),G 91 (V 93 94),G 91 (B .lss (t 94) (i 1) 95),G 91 (M 95 96),H 96 (A 6 1 97),H 96 (L 97 98),H 96 (V 98 99),H 96 (B .gtr (t 99) (i 32) 100),G 91 (U 96 100 101),H 87 (P 91 101 102),U 87 102 103,M 103 77]) (k 77 (q (r [N (i 2) 2]) .ret) (q (r [A 0 1 105,L 105 106,E 106 4 107,M 107 108,G 108 (A 2 1 109),G 108 (L 109 110),G 108 (W 110 111),G 108 (B .gtr (t 111) (i 4000) 112),P 108 112 113,M 113 114,H 114 (A 0 1 115),H 114 (L 115 116),H 114 (F 116 4 117),H 114 (M 117 118),G 118 (A 2 1 119),G 118 (L 119 120),G 118 (W 120 121),G 118 (B .gtr (t 121) (i 255) 122),H 114 (P 118 122 123),U 114 123 124,M 124 104]) (k 104 (q (r [N (i 3) 2]) .ret) .skip))))))))))))) (q (q (r [A 6 1 125,L 125 126,V 126 127,N (i 0) 128]) (l 1 (p (q (r [J 128 127 129]) (q (k 129 .skip (x 1)) (q (l 2 (q (r [Y 7 126 (t 128) 130,Q 7 130 131,D 27 z1 5,S 7 5 (t 131)]) (q (r [Q 7 5 132,c 11 [132] 133,M 133 6]) (q (r [M 6 134,F 134 0 135]) (k 135 (q (r [M 6 136,M 136 2]) .ret) .skip))))) (r [I 128 137,M 137 128]))))))) (q (r [N (i 0) 2]) .ret)))),[.tmp 2]⟩
def F21 : AFn := ⟨18,q (r [b 24 0 1,N ff 2]) (q (r [A 0 1 3,L 3 4,n 4 5,M 5 6,G 6 (A 1 1 7),G 6 (L 7 8),G 6 (V 8 9),G 6 (E 9 0 10),P 6 10 11,M 11 12,G 12 (A 2 1 13),G 12 (L 13 14),G 12 (V 14 15),G 12 (E 15 0 16),P 12 16 17,M 17 2]) .ret),[.tmp 2]⟩
def F22 : AFn := ⟨72,q (r [b 24 0 1,N (i 0) 2]) (q (q (r [A 1 1 5,L 5 6,V 6 7,B .gtr (t 7) (i 128) 8,M 8 9,H 9 (A 2 1 10),H 9 (L 10 11),H 9 (V 11 12),H 9 (B .gtr (t 12) (i 128) 13),U 9 13 14]) (k 14 (q (r [N (i 3) 2]) .ret) .skip)) (q (q (r [A 2 1 15,L 15 16,V 16 17,E 17 0 18,M 18 19,H 19 (A 2 1 20),H 19 (L 20 21),H 19 (A 2 1 22),H 19 (L 22 23),H 19 (V 23 24),H 19 (B .sub (t 24) (i 1) 25),H 19 (Y 1 21 (t 25) 26),H 19 (L 26 27),H 19 (B .eql (t 27) (.con (.int .u32 (.ofNat 0))) 28),U 19 28 29,M 29 30,H 30 (A 1 1 31),H 30 (L 31 32),H 30 (V 32 33),H 30 (B .gtr (t 33) (i 0) 34),H 30 (M 34 35),G 35 (A 1 1 36),G 35 (L 36 37),G 35 (A 1 1 38),G 35 (L 38 39),G 35 (V 39 40),G 35 (B .sub (t 40) (i 1) 41),G 35 (Y 1 37 (t 41) 42),G 35 (L 42 43),G 35 (B .eql (t 43) (.con (.int .u32 (.ofNat 0))) 44),H 30 (P 35 44 45),U 30 45 46]) (k 46 (q (r [N (i 2) 2]) .ret) .skip)) (q (w [A 1 1 47,L 47 48,c 41 [48] 49,A 2 1 50,L 50 51,c 41 [51] 52,M 49 3,M 52 4] [[],[],[],[],[2],[],[],[]]) (q (q (r [M 3 53,V 53 54,E 54 0 55,M 55 56,G 56 (A 0 1 57),G 56 (L 57 58),G 56 (M 58 59),H 59 (M 4 60),H 59 (O (.buildSlice 3 1 1 z2 [(0,1,i 1)]) 61),H 59 (c 42 [60,61] 62),H 59 (F 62 0 63),G 56 (U 59 63 64),P 56 64 65]) (k 65 (q (r [N (i 2) 2]) .ret) .skip)) (q (q (r [M 3 66,M 4 67,c 43 [66,67] 68,O (.buildSlice 3 1 1 z2 [(0,1,i 1)]) 69,c 42 [68,69] 70,F 70 0 71]) (k 71 (q (r [N (i 2) 2]) .ret) .skip)) (q (r [N (i 0) 2]) .ret)))))),[.tmp 2]⟩
def F41 : AFn := ⟨24,q (r [N (.con .nils) 2]) (q (r [N (.con .nils) 3]) (q (q (r [M 0 6,V 6 7,N (i 0) 8]) (l 0 (p (q (r [J 8 7 9]) (q (k 9 .skip (x 0)) (q (l 1 (q (r [Y 1 6 (t 8) 10,L 10 11,M 11 5]) (r [M 3 12,M 5 13,B .and (t 13) (.con (.int .u32 (.ofNat 65535))) 14,O (.toInt .i64 (t 14)) 15,M 5 16,B .shr (t 16) (.con (.int .u64 (.ofNat 16))) 17,O (.toInt .i64 (t 17)) 18,O (.buildSlice 3 2 1 z3 [(0,1,t 15),(1,1,t 18)]) 19,O (.app 3 1 8 z2 (t 12) (t 19)) 20,M 20 3]))) (r [I 8 21,M 21 8]))))))) (q (r [M 3 22,c 82 [22] 23,M 23 2]) .ret))),[.tmp 2]⟩
def F82 : AFn := ⟨21,q (r [N (.con .nils) 2]) (q (l 0 (p (q (q (r [M 0 3,V 3 4,B .gtr (t 4) (i 0) 5,M 5 6,G 6 (M 0 7),G 6 (M 0 8),G 6 (V 8 9),G 6 (B .sub (t 9) (i 1) 10),G 6 (Y 1 7 (t 10) 11),G 6 (L 11 12),G 6 (E 12 0 13),P 6 13 14]) (k 14 .skip (x 0))) (l 1 (r [M 0 15,M 0 16,V 16 17,B .sub (t 17) (i 1) 18,O (.cutSl 1 (t 15) none (some (t 18)) none) 19,M 19 0]))))) (q (r [M 0 20,M 20 2]) .ret)),[.tmp 2]⟩
def F42 : AFn := ⟨30,q (r [N (i 0) 4]) (q (q (r [M 0 8,V 8 9,M 1 10,V 10 11,O (.maxI (t 9) (t 11)) 12,B .sub (t 12) (i 1) 13,M 13 5]) (l 0 (p (q (q (r [M 5 14,B .geq (t 14) (i 0) 15]) (k 15 .skip (x 0))) (q (l 1 (q (r [M 0 18,M 5 19,c 83 [18,19] 20,M 1 21,M 5 22,c 83 [21,22] 23,M 20 6,M 23 7]) (q (q (r [M 6 24,M 7 25,J 24 25 26]) (k 26 (q (r [N (.con (.int .i64 (.negSucc 0))) 4]) .ret) .skip)) (q (r [M 6 27,M 7 28,B .gtr (t 27) (t 28) 29]) (k 29 (q (r [N (i 1) 4]) .ret) .skip))))) (r [M 5 16,B .sub (t 16) (i 1) 17,M 17 5])))))) (q (r [N (i 0) 4]) .ret)),[.tmp 4]⟩
def F83 : AFn := ⟨13,q (r [N (i 0) 4]) (q (q (r [M 1 5,M 0 6,V 6 7,J 5 7 8]) (k 8 (q (r [M 0 9,M 1 10,Y 1 9 (t 10) 11,L 11 12,M 12 4]) .ret) .skip)) (q (r [N (i 0) 4]) .ret)),[.tmp 4]⟩
def F43 : AFn := ⟨55,q (r [N (.con .nils) 4]) (q (q (r [M 0 7,V 7 8,E 8 0 9]) (k 9 (q (r [M 1 10,M 10 4]) .ret) .skip)) (q (q (r [M 1 11,V 11 12,E 12 0 13]) (k 13 (q (r [M 0 14,M 14 4]) .ret) .skip)) (q (r [N (i 0) 5]) (q (l 0 (p (q (q (r [M 0 15,C 84 [t 15,i 0] 16,E 16 0 17,M 17 18,G 18 (M 1 19),G 18 (C 84 [t 19,i 0] 20),G 18 (E 20 0 21),P 18 21 22]) (k 22 .skip (x 0))) (l 1 (q (r [M 0 23,c 85 [23] 24,M 1 25,c 85 [25] 26,M 24 0,M 26 1]) (r [M 5 27,I 27 28,M 28 5])))))) (q (l 2 (p (q (q (r [M 0 29,V 29 30,B .gtr (t 30) (i 0) 31]) (k 31 .skip (x 2))) (l 3 (q (l 4 (p (q (q (r [M 0 32,C 84 [t 32,i 0] 33,E 33 0 34]) (k 34 .skip (x 4))) (l 5 (r [M 0 35,c 85 [35] 36,M 36 0]))))) (q (l 6 (p (q (q (r [M 1 37,C 84 [t 37,i 0] 38,E 38 0 39]) (k 39 .skip (x 6))) (l 7 (r [M 1 40,c 85 [40] 41,M 41 1]))))) (q (q (r [M 0 42,M 1 43,c 42 [42,43] 44,B .lss (t 44) (i 0) 45]) (k 45 (q (r [M 0 46,M 46 6]) (q (r [M 1 47,M 47 0]) (r [M 6 48,M 48 1]))) .skip)) (r [M 0 49,M 1 50,c 86 [49,50] 51,M 51 0])))))))) (q (r [M 1 52,M 5 53,c 87 [52,53] 54,M 54 4]) .ret)))))),[.tmp 4]⟩
def F84 : AFn := ⟨13,q (r [N (i 0) 4]) (q (r [M 0 5,M 1 6,B .quo (t 6) (i 16) 7,c 83 [5,7] 8,M 1 9,B .rem (t 9) (i 16) 10,B .shr (t 8) (t 10) 11,B .and (t 11) (i 1) 12,M 12 4]) .ret),[.tmp 4]⟩
def F85 : AFn := ⟨31,q (r [N (.con .nils) 2]) (q (r [M 0 5,V 5 6,O (.mkSlice 3 1 8 z2 (t 6) (t 6)) 7,M 7 3]) (q (q (r [M 0 8,V 8 9,N (i 0) 10]) (l 0 (p (q (r [J 10 9 11]) (q (k 11 .skip (x 0)) (q (l 1 (q (r [M 10 12,M 12 4]) (w [M 3 13,M 4 14,M 0 15,M 4 16,Y 1 15 (t 16) 17,L 17 18,B .shr (t 18) (.con (.int .u64 (.ofNat 1))) 19,M 0 20,M 4 21,I 21 22,c 83 [20,22] 23,B .and (t 23) (i 1) 24,B .shl (t 24) (.con (.int .u64 (.ofNat 15))) 25,B .or (t 19) (t 25) 26,Y 1 13 (t 14) 27,S 1 27 (t 26)] [[],[],[],[],[],[],[],[],[],[],[5],[],[],[],[],[]]))) (r [I 10 28,M 28 10]))))))) (q (r [M 3 29,c 82 [29] 30,M 30 2]) .ret))),[.tmp 2]⟩
def F86 : AFn := ⟨35,q (r [N (.con .nils) 4]) (q (r [N (.con .nils) 5]) (q (r [N (i 0) 6]) (q (q (r [M 0 9,V 9 10,N (i 0) 11]) (l 0 (p (q (r [J 11 10 12]) (q (k 12 .skip (x 0)) (q (l 1 (q (r [M 11 13,M 13 7]) (q (w [M 0 14,M 7 15,Y 1 14 (t 15) 16,L 16 17,M 1 18,M 7 19,c 83 [18,19] 20,B .sub (t 17) (t 20) 21,M 6 22,B .sub (t 21) (t 22) 23,M 23 8] [[],[],[],[],[],[],[3],[],[],[],[]]) (q (r [N (i 0) 6]) (q (q (r [M 8 24,B .lss (t 24) (i 0) 25]) (k 25 (q (r [M 8 26,B .add (t 26) (i 65536) 27,M 27 8]) (r [N (i 1) 6])) .skip)) (r [M 5 28,M 8 29,O (.buildSlice 3 1 1 z2 [(0,1,t 29)]) 30,O (.app 3 1 8 z2 (t 28) (t 30)) 31,M 31 5])))))) (r [I 11 32,M 32 11]))))))) (q (r [M 5 33,c 82 [33] 34,M 34 4]) .ret)))),[.tmp 4]⟩
def F87 : AFn := ⟨41,q (r [N (.con .nils) 4]) (q (q (r [M 0 10,V 10 11,E 11 0 12]) (k 12 (q (r [N (.con .nils) 4]) .ret) .skip)) (q (r [M 1 13,B .quo (t 13) (i 16) 14,O (.mkSlice 3 1 8 z2 (t 14) (t 14)) 15,M 15 5]) (q (r [N (i 0) 6]) (q (q (r [M 0 16,V 16 17,N (i 0) 18]) (l 0 (p (q (r [J 18 17 19]) (q (k 19 .skip (x 0)) (q (l 1 (q (r [Y 1 16 (t 18) 20,L 20 21,M 21 8]) (q (r [M 8 22,M 1 23,B .rem (t 23) (i 16) 24,B .shl (t 22) (t 24) 25,M 6 26,B .or (t 25) (t 26) 27,M 27 9]) (q (r [M 5 28,M 9 29,B .rem (t 29) (i 65536) 30,O (.buildSlice 3 1 1 z2 [(0,1,t 30)]) 31,O (.app 3 1 8 z2 (t 28) (t 31)) 32,M 32 5]) (r [M 9 33,B .quo (t 33) (i 65536) 34,M 34 6]))))) (r [I 18 35,M 35 18]))))))) (q (r [M 5 36,M 6 37,O (.buildSlice 3 1 1 z2 [(0,1,t 37)]) 38,O (.app 3 1 8 z2 (t 36) (t 38)) 39,c 82 [39] 40,M 40 4]) .ret))))),[.tmp 4]⟩
def F58 : AFn := ⟨15,q (r [N (.con .nils) 2]) (q (r [N (.con .nils) 3]) (q (l 0 (p (q (q (r [M 0 4,B .gtr (t 4) (.con (.int .u64 (.ofNat 0))) 5]) (k 5 .skip (x 0))) (q (l 1 (r [M 3 8,M 0 9,B .and (t 9) (.con (.int .u64 (.ofNat 65535))) 10,O (.toInt .i64 (t 10)) 11,O (.buildSlice 3 1 1 z2 [(0,1,t 11)]) 12,O (.app 3 1 8 z2 (t 8) (t 12)) 13,M 13 3])) (r [M 0 6,B .shr (t 6) (.con (.int .u64 (.ofNat 16))) 7,M 7 0]))))) (q (r [M 3 14,M 14 2]) .ret))),[.tmp 2]⟩
def F99 : AFn := ⟨12,q (r [b 24 0 1,D 205 z4 2]) (q (w [A 0 1 3,L 3 4,A 1 1 5,L 5 6,c 41 [6] 7,A 2 1 8,L 8 9,c 41 [9] 10,O (.build z4 [(0,1,t 4),(1,1,t 7),(2,1,t 10)]) 11,S 3 2 (t 11)] [[],[],[],[],[1],[],[4],[1],[],[]]) .ret),[.cell 2 (some 3)]⟩
def F98 : AFn := ⟨8,q (r [b 205 0 1,N ff 2]) (q (r [A 2 1 3,L 3 4,O (.buildSlice 3 1 1 z2 [(0,1,i 1)]) 5,c 42 [4,5] 6,E 6 0 7,M 7 2]) .ret),[.tmp 2]⟩
def F57 : AFn := ⟨70,q (r [N (s []) 2]) (q (q (r [M 0 11,V 11 12,E 12 0 13]) (k 13 (q (r [N (s [48]) 2]) .ret) .skip)) (q (r [N (.con .nils) 3]) (q (l 0 (p (q (q (r [M 0 14,V 14 15,B .gtr (t 15) (i 0) 16]) (k 16 .skip (x 0))) (l 1 (q (r [N (i 0) 4]) (q (r [M 0 17,V 17 18,O (.mkSlice 3 1 8 z2 (t 18) (t 18)) 19,M 19 5]) (q (q (r [M 0 20,V 20 21,B .sub (t 21) (i 1) 22,M 22 6]) (l 2 (p (q (q (r [M 6 23,B .geq (t 23) (i 0) 24]) (k 24 .skip (x 2))) (q (l 3 (q (r [M 4 27,B .mul (t 27) (i 65536) 28,M 0 29,M 6 30,Y 1 29 (t 30) 31,L 31 32,B .add (t 28) (t 32) 33,M 33 7]) (q (r [M 5 34,M 6 35,M 7 36,B .quo (t 36) (i 10) 37,Y 1 34 (t 35) 38,S 1 38 (t 37)]) (r [M 7 39,B .rem (t 39) (i 10) 40,M 40 4])))) (r [M 6 25,B .sub (t 25) (i 1) 26,M 26 6])))))) (q (r [M 3 41,M 4 42,B .add (i 48) (t 42) 43,O (.toInt .u8 (t 43)) 44,O (.buildSlice 5 1 1 z5 [(0,1,t 44)]) 45,O (.app 5 1 1 z5 (t 41) (t 45)) 46,M 46 3]) (r [M 5 47,c 82 [47] 48,M 48 0]))))))))) (q (r [M 3 49,V 49 50,O (.mkSlice 5 1 1 z5 (t 50) (t 50)) 51,M 51 8]) (q (q (r [M 3 52,V 52 53,N (i 0) 54]) (l 4 (p (q (r [J 54 53 55]) (q (k 55 .skip (x 4)) (q (l 5 (q (r [M 54 56,Y 1 52 (t 54) 57,L 57 58,M 56 9,M 58 10]) (r [M 8 59,M 3 60,V 60 61,B .sub (t 61) (i 1) 62,M 9 63,B .sub (t 62) (t 63) 64,M 10 65,Y 1 59 (t 64) 66,S 1 66 (t 65)]))) (r [I 54 67,M 67 54]))))))) (q (r [M 8 68,O (.toStr (t 68)) 69,M 69 2]) .ret)))))),[.tmp 2]⟩
def F17 : AFn := ⟨8,q (r [N (.con .nils) 2]) (q (q (r [M 0 3,O (.bin .sl .eql (t 3) (.con .nils)) 4]) (k 4 (q (r [N (.con .nils) 2]) .ret) .skip)) (q (r [O (.buildSlice 57 0 1 [] []) 5,M 0 6,O (.app 57 1 4 z6 (t 5) (t 6)) 7,M 7 2]) .ret)),[.tmp 2]⟩
def F6 : AFn := ⟨27,q (r [b 27 0 1,D 32 z0 2]) (q (q (r [A 0 1 4,L 4 5,E 5 1 6]) (k 6 (q (r [O (.build z0 []) 7,S 6 2 (t 7)]) .ret) .skip)) (q (r [A 3 1 8,Q 3 8 9,D 24 z4 3,S 3 3 (t 9)]) (q (w [A 1 3 10,L 10 11,c 17 [11] 12,A 2 3 13,L 13 14,c 17 [14] 15,A 1 3 16,S 1 16 (t 12),A 2 3 17,S 1 17 (t 15)] [[],[],[],[],[2],[],[],[],[],[]]) (q (r [A 0 1 18,L 18 19,Q 3 3 20,A 2 1 21,L 21 22,A 6 1 23,L 23 24,V 24 25,O (.build z0 [(0,1,t 19),(1,3,t 20),(4,1,t 22),(5,1,t 25)]) 26,S 6 2 (t 26)]) .ret)))),[.cell 2 (some 6)]⟩
def F9 : AFn := ⟨40,q (r [b 32 0 2,b 27 1 3,N ff 4]) (q (q (r [A 0 2 5,L 5 6,E 6 0 7,M 7 8,H 8 (A 0 3 9),H 8 (L 9 10),H 8 (E 10 1 11),U 8 11 12]) (k 12 (q (r [N tt 4]) .ret) .skip)) (q (r [A 0 2 13,L 13 14,A 0 3 15,L 15 16,B .eql (t 14) (t 16) 17,M 17 18,G 18 (A 1 2 19),G 18 (Q 3 19 20),G 18 (A 3 3 21),G 18 (Q 3 21 22),G 18 (c 19 [20,22] 23),P 18 23 24,M 24 25,G 25 (A 4 2 26),G 25 (L 26 27),G 25 (A 2 3 28),G 25 (L 28 29),G 25 (B .eql (t 27) (t 29) 30),P 25 30 31,M 31 32,G 32 (A 5 2 33),G 32 (L 33 34),G 32 (A 6 3 35),G 32 (L 35 36),G 32 (V 36 37),G 32 (B .eql (t 34) (t 37) 38),P 32 38 39,M 39 4]) .ret)),[.tmp 4]⟩
def F19 : AFn := ⟨24,q (r [b 24 0 2,b 24 1 3,N ff 4]) (q (r [A 0 2 5,L 5 6,A 0 3 7,L 7 8,O (.bin .bool .eql (t 6) (t 8)) 9,M 9 10,G 10 (A 1 2 11),G 10 (L 11 12),G 10 (A 1 3 13),G 10 (L 13 14),G 10 (c 40 [12,14] 15),P 10 15 16,M 16 17,G 17 (A 2 2 18),G 17 (L 18 19),G 17 (A 2 3 20),G 17 (L 20 21),G 17 (c 40 [19,21] 22),P 17 22 23,M 23 4]) .ret),[.tmp 4]⟩
def F40 : AFn := ⟨26,q (r [N ff 4]) (q (q (r [M 0 6,V 6 7,M 1 8,V 8 9,B .neq (t 7) (t 9) 10]) (k 10 (q (r [N ff 4]) .ret) .skip)) (q (q (r [M 0 11,V 11 12,N (i 0) 13]) (l 0 (p (q (r [J 13 12 14]) (q (k 14 .skip (x 0)) (q (l 1 (q (r [M 13 15,M 15 5]) (q (w [M 0 16,M 5 17,Y 1 16 (t 17) 18,L 18 19,M 1 20,M 5 21,Y 1 20 (t 21) 22,L 22 23,B .neq (t 19) (t 23) 24] [[],[],[],[],[],[],[],[],[]]) (k 24 (q (r [N ff 4]) .ret) .skip)))) (r [I 13 25,M 25 13]))))))) (q (r [N tt 4]) .ret))),[.tmp 4]⟩
def F7 : AFn := ⟨17,q (r [b 27 0 1,D 32 z0 2]) (q (q (r [A 0 1 3,L 3 4,E 4 1 5]) (k 5 (q (r [O (.build z0 []) 6,S 6 2 (t 6)]) .ret) .skip)) (q (r [A 0 1 7,L 7 8,A 3 1 9,Q 3 9 10,A 2 1 11,L 11 12,A 6 1 13,L 13 14,V 14 15,O (.build z0 [(0,1,t 8),(1,3,t 10),(4,1,t 12),(5,1,t 15)]) 16,S 6 2 (t 16)]) .ret)),[.cell 2 (some 6)]⟩
def F8 : AFn := ⟨43,q (r [b 32 0 2,b 27 1 3,N ff 4]) (q (q (r [A 0 2 5,L 5 6,E 6 0 7,M 7 8,H 8 (A 0 3 9),H 8 (L 9 10),H 8 (E 10 1 11),U 8 11 12]) (k 12 (q (r [N tt 4]) .ret) .skip)) (q (q (r [A 0 2 13,L 13 14,A 0 3 15,L 15 16,B .neq (t 14) (t 16) 17,M 17 18,H 18 (A 4 2 19),H 18 (L 19 20),H 18 (A 2 3 21),H 18 (L 21 22),H 18 (B .neq (t 20) (t 22) 23),U 18 23 24,M 24 25,H 25 (A 5 2 26),H 25 (L 26 27),H 25 (A 6 3 28),H 25 (L 28 29),H 25 (V 29 30),H 25 (B .neq (t 27) (t 30) 31),U 25 31 32]) (k 32 (q (r [N ff 4]) .ret) .skip)) (q (r [A 0 2 33,L 33 34,F 34 2 35,M 35 36,H 36 (A 1 2 37),H 36 (Q 3 37 38),H 36 (A 3 3 39),H 36 (Q 3 39 40),H 36 (c 18 [38,40] 41),U 36 41 42,M 42 4]) .ret))),[.tmp 4]⟩
def F18 : AFn := ⟨10,q (r [b 24 0 2,b 24 1 3,N ff 4]) (q (r [Q 3 2 5,O (.build z1 [(0,1,i 2),(3,3,t 5)]) 6,Q 3 3 7,O (.build z1 [(0,1,i 2),(3,3,t 7)]) 8,c 39 [6,8] 9,M 9 4]) .ret),[.tmp 4]⟩
def F39 : AFn := ⟨10,q (r [b 27 0 2,b 27 1 3,N ff 4]) (q (w [Q 7 2 5,c 81 [5] 6,Q 7 3 7,c 81 [7] 8,B .eql (t 6) (t 8) 9,M 9 4] [[],[],[1],[],[],[]]) .ret),[.tmp 4]⟩
def F81 : AFn := ⟨6,q (r [b 27 0 1,N (s []) 2]) (q (r [Q 7 1 3,C 156 [.con .nils,t 3] 4,O (.toStr (t 4)) 5,M 5 2]) .ret),[.tmp 2]⟩
def F156 : AFn := ⟨33,q (r [b 27 1 3,N (.con .nils) 4]) (q (r [Q 7 3 8,c 220 [8] 9,M 9 5]) (q (r [M 0 10,M 5 11,W 11 12,c 221 [12] 13,O (.app 5 1 1 z5 (t 10) (t 13)) 14,M 14 0]) (q (r [M 0 15,O (.buildSlice 5 1 1 z5 [(0,1,y 58)]) 16,O (.app 5 1 1 z5 (t 15) (t 16)) 17,M 17 0]) (q (r [M 0 18,M 5 19,O (.app 5 1 1 z5 (t 18) (t 19)) 20,M 20 0]) (q (q (r [A 6 3 21,L 21 22,V 22 23,N (i 0) 24]) (l 0 (p (q (r [J 24 23 25]) (q (k 25 .skip (x 0)) (q (l 1 (q (r [Y 7 22 (t 24) 26,Q 7 26 27,D 27 z1 7,S 7 7 (t 27)]) (r [M 0 28,Q 7 7 29,c 156 [28,29] 30,M 30 0]))) (r [I 24 31,M 31 24]))))))) (q (r [M 0 32,M 32 4]) .ret)))))),[.tmp 4]⟩
def F220 : AFn := ⟨40,q (r [b 27 0 1,N (s []) 2]) (q (q (r [A 0 1 3,L 3 4]) (l 0 (q (r [E 4 1 6,M 6 5]) (k 5 (q (r [A 1 1 7,L 7 8,O (.toInt .u64 (t 8)) 9,c 58 [9] 10,c 57 [10] 11,B .add (s [118]) (t 11) 12,M 12 2]) .ret) (q (r [E 4 2 14,M 14 13]) (k 13 (q (r [A 3 1 15,Q 3 15 16,c 99 [16] 17,c 274 [17] 18,B .add (s [110]) (t 18) 19,M 19 2]) .ret) (q (r [E 4 3 21,M 21 20]) (k 20 (q (r [A 2 1 22,L 22 23,B .add (s [97]) (t 23) 24,M 24 2]) .ret) (q (r [E 4 4 26,M 26 25]) (k 25 (q (r [A 2 1 27,L 27 28,B .add (s [115]) (t 28) 29,M 29 2]) .ret) .skip)))))))))) (q (r [A 6 1 30,L 30 31,V 31 32,B .add (i 48) (t 32) 33,O (.toInt .i32 (t 33)) 34,O (.runeStr (t 34)) 35,B .add (s [99]) (t 35) 36,A 2 1 37,L 37 38,B .add (t 36) (t 38) 39,M 39 2]) .ret)),[.tmp 2]⟩
def F274 : AFn := ⟨21,q (r [b 205 0 1,N (s []) 2]) (q (r [A 1 1 4,L 4 5,c 57 [5] 6,M 6 3]) (q (q (r [A 0 1 7,L 7 8]) (k 8 (r [M 3 9,B .add (s [45]) (t 9) 10,M 10 3]) .skip)) (q (q (r [Q 3 1 11,c 98 [11] 12,n 12 13]) (k 13 (r [M 3 14,A 2 1 15,L 15 16,c 57 [16] 17,B .add (s [114]) (t 17) 18,B .add (t 14) (t 18) 19,M 19 3]) .skip)) (q (r [M 3 20,M 20 2]) .ret)))),[.tmp 2]⟩
def F221 : AFn := ⟨7,q (r [N (s []) 2]) (q (r [M 0 3,c 275 [3] 4,c 220 [4] 5,O (.cutStr (t 5) (some (i 1)) none) 6,M 6 2]) .ret),[.tmp 2]⟩
def F275 : AFn := ⟨5,q (r [D 27 z1 2]) (q (r [M 0 3,O (.build z1 [(0,1,i 1),(1,1,t 3)]) 4,S 7 2 (t 4)]) .ret),[.cell 2 (some 7)]⟩
end
end Go.RI.Fx
