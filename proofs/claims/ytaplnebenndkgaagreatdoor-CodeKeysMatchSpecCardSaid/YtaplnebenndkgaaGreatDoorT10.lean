/- A compiler from bodies of Go functions into a small language of values and blocks, and the proof that a run of the compiled text is a run of the program. Conditions: none. -/
import Derived.Test.YtaplnebenndkgaaGreatDoorT09
set_option linter.all false
namespace Go.RI
def optV (tm : Tr AV) : Option Rnd → Option AV
  | none => none
  | some r => some (ev tm r)
def optNatV (d : Nat) : Option AV → Option Nat
  | none => some d
  | some v => natOf v
theorem optNat_V (tm : Tr AV) (d : Nat) (r : Option Rnd) : optNatV d (optV tm r) = optNat tm d r := by cases r <;> rfl
def partsV (tm : Tr AV) : List (Nat × Nat × Rnd) → List (Nat × Nat × AV)
  | [] => []
  | (a, b, r) :: l => (a, b, ev tm r) :: partsV tm l
def fillV (cells : List AV) : List (Nat × Nat × AV) → Option (List AV)
  | [] => some cells
  | (off, size, x) :: rest => match Nat.beq x.cells.length size, Nat.ble (off + size) cells.length with
    | true, true => fillV (cells.take off ++ x.cells ++ cells.drop (off + size)) rest
    | _, _ => none
theorem fillA_V (tm : Tr AV) : ∀ (l : List (Nat × Nat × Rnd)) (cells : List AV), fillV cells (partsV tm l) = fillA cells tm l
  | [], _ => rfl
  | (a, b, r) :: l, cells => by
    simp only [fillV, partsV, fillA, fillA_V tm l]
    rfl
def b_build (zero : List AV) (parts : List (Nat × Nat × AV)) (st : St) : Option (AV × St) := match fillV zero parts with
    | some l => some (.agg l, st)
    | none => none
def b_buildSlice (elem : Nat) (len : Nat) (es : Nat) (zero : List AV) (parts : List (Nat × Nat × AV)) (st : St) : Option (AV × St) := match fillV zero parts with
    | some l => some (.slice st.next 0 len len es, newCells st elem l)
    | none => none
def b_store (n : Nat) (a : AV) (x : AV) (st : St) : Option (AV × St) := match a with
    | .ptr b off =>
      let c := x.cells
      match Nat.beq c.length n with
      | true => match st.wrL b off c with
        | some st' => some (undefA, st')
        | none => none
      | false => none
    | _ => none
def b_nilck (x : AV) (st : St) : Option (AV × St) := match x with
    | .ptr b off => some (.ptr b off, st)
    | .func (.func f) a b => some (.func (.func f) a b, st)
    | .yld l => some (.yld l, st)
    | _ => none
def b_bin (g : BTag) (op : BinOp) (x : AV) (y : AV) (st : St) : Option (AV × St) := match binA g op x y with
    | some v => some (v, st)
    | none => none
def b_un (op : UnOp) (x : AV) (st : St) : Option (AV × St) := match unA op x with
    | some v => some (v, st)
    | none => none
def b_toInt (k : IntKind) (x : AV) (st : St) : Option (AV × St) := match x with
    | .int _ n => some (.int k (k.wrap n), st)
    | _ => none
def b_toStr (x : AV) (st : St) : Option (AV × St) := match x with
    | .str s => some (.str s, st)
    | .nils => some (.str [], st)
    | .slice b off len _ 1 => match st.rdN b off len with
      | some l => match bytesOf l with
        | some s => some (.str s, st)
        | none => none
      | none => none
    | _ => none
def b_runeStr (x : AV) (st : St) : Option (AV × St) := match x with
    | .int _ (.ofNat n) => match Nat.blt n 128 with
      | true => some (.str [n], st)
      | false => none
    | _ => none
def b_toBytes (elem : Nat) (x : AV) (st : St) : Option (AV × St) := match x with
    | .str s => some (.slice st.next 0 s.length s.length 1, st.new (.cells (elem, true) (s.map fun n => some (.int .u8 (.ofNat n))) (Nat.max 1 s.length) none))
    | _ => none
def b_strId (x : AV) (st : St) : Option (AV × St) := match x with
    | .str s => some (.str s, st)
    | _ => none
def b_ptrUs (x : AV) (st : St) : Option (AV × St) := match x with
    | .ptr b off => match st.heap.get b with
      | some (.cells _ l _ _) => match Nat.blt off l.length with
        | true => some (.ptr b off, st)
        | false => none
      | _ => none
    | .nilp => some (.nilp, st)
    | _ => none
def b_usPtr (oks : List (Nat × Nat)) (x : AV) (st : St) : Option (AV × St) := match x with
    | .ptr b 0 => match st.heap.get b with
      | some (.cells (e, true) l _ _) => match sizeIn e oks with
        | some size => match Nat.ble size l.length with
          | true => some (.ptr b 0, st)
          | false => none
        | none => none
      | _ => none
    | .nilp => some (.nilp, st)
    | _ => none
def b_mkIface (t : Nat) (x : AV) (st : St) : Option (AV × St) := some (.iface t x, st)
def b_mkFunc (f : Fn) (a : List AV) (b : List AV) (st : St) : Option (AV × St) := some (.func f a b, st)
def b_mkMap  (st : St) : Option (AV × St) := some (.map st.next, st.new (.map [] 0))
def b_mkSlice (elem : Nat) (es : Nat) (bytes : Nat) (zero : List AV) (len : AV) (cap : AV) (st : St) : Option (AV × St) := match natOf len, natOf cap with
    | some l, some c => match Nat.ble l c, Nat.ble (bytes * c) 281474976710656, Nat.ble c 1000000 with
      | true, true, true => some (.slice st.next 0 l c es, newCells st elem (List.replicate c zero).flatten)
      | _, _, _ => none
    | _, _ => none
def b_cutSl (es : Nat) (x : AV) (lo : Option AV) (hi : Option AV) (mx : Option AV) (st : St) : Option (AV × St) := match x with
    | .slice b off len cap es' => match optNatV 0 lo, optNatV len hi, optNatV cap mx with
      | some l, some h, some m => match Nat.ble l h, Nat.ble h m, Nat.ble m cap, Nat.beq es es' with
        | true, true, true, true => some (.slice b (off + l * es) (h - l) (m - l) es, st)
        | _, _, _, _ => none
      | _, _, _ => none
    | .nils => match optNatV 0 lo, optNatV 0 hi, optNatV 0 mx with
      | some 0, some 0, some 0 => some (.nils, st)
      | _, _, _ => none
    | _ => none
def b_cutArr (n : Nat) (es : Nat) (x : AV) (lo : Option AV) (hi : Option AV) (st : St) : Option (AV × St) := match x with
    | .ptr b off => match st.heap.get b with
      | some (.cells _ row _ _) => match optNatV 0 lo, optNatV n hi with
        | some l, some h => match Nat.ble l h, Nat.ble h n, Nat.ble (off + n * es) row.length with
          | true, true, true => some (.slice b (off + l * es) (h - l) (n - l) es, st)
          | _, _, _ => none
        | _, _ => none
      | _ => none
    | _ => none
def b_field (agg : Bool) (off : Nat) (size : Nat) (x : AV) (st : St) : Option (AV × St) := match x with
    | .agg l => match agg with
      | true => some (.agg ((l.drop off).take size), st)
      | false => match l[off]? with
        | some v => some (v, st)
        | none => none
    | _ => none
def b_idxArr (len : Nat) (es : Nat) (x : AV) (i : AV) (st : St) : Option (AV × St) := match x, natOf i with
    | .ptr b o, some n => match Nat.blt n len with
      | true => some (.ptr b (o + n * es), st)
      | false => none
    | _, _ => none
def b_idxAgg (agg : Bool) (len : Nat) (es : Nat) (x : AV) (i : AV) (st : St) : Option (AV × St) := match x, natOf i with
    | .agg l, some n => match Nat.blt n len with
      | true => match agg with
        | true => some (.agg ((l.drop (n * es)).take es), st)
        | false => match l[n * es]? with
          | some v => some (v, st)
          | none => none
      | false => none
    | _, _ => none
def b_lookup (kk : KK) (zero : AV) (ok : Bool) (m : AV) (k : AV) (st : St) : Option (AV × St) :=
    match lookK st kk m k with
    | some r => some (lookRes ok zero r, st)
    | none => none
def b_mapUpd (kk : KK) (m : AV) (k : AV) (v : AV) (st : St) : Option (AV × St) := match m with
    | .map b => match st.upd kk b k v with
      | some st' => some (undefA, st')
      | none => none
    | _ => none
def b_mapEnt (kk : KK) (zero : AV) (m : AV) (k : AV) (st : St) : Option (AV × St) := match m with
    | .map b => match st.heap.get b with
      | some (.map es c) => match findK st kk k es with
        | some (some (i, v, n)) => some (.tuple [v, .int .i64 (.ofNat n)], st.putObj b (.map (setAt k v es i) c))
        | some none => some (.tuple [zero, .int .i64 (.ofNat c)], st.putObj b (.map (es ++ [(k, zero, c)]) (Nat.succ c)))
        | none => none
      | _ => none
    | _ => none
def b_entSt (m : AV) (s : AV) (v : AV) (st : St) : Option (AV × St) := match m, natOf s with
    | .map b, some n => match st.heap.get b with
      | some (.map es c) => match setBorn n v es with
        | some es' => some (undefA, st.putObj b (.map es' c))
        | none => none
      | _ => none
    | _, _ => none
def b_rangeMap (x : AV) (st : St) : Option (AV × St) := match x with
    | .nilm => some (.ptr st.next 0, st.new (.miter none 0 [] 0))
    | .map b => match st.heap.get b with
      | some (.map _ c) => some (.ptr st.next 0, st.new (.miter (some b) c [] c))
      | _ => none
    | _ => none
def b_rangeStr (x : AV) (st : St) : Option (AV × St) := match x with
    | .str s => some (.ptr st.next 0, st.new (.siter s 0))
    | _ => none
def b_nextMap (it : AV) (st : St) : Option (AV × St) := match it with
    | .ptr r 0 => match st.heap.get r with
      | some (.miter none _ _ _) => some (.tuple [.bool false], st)
      | some (.miter (some m) since seen last) => match st.heap.get m with
        | some (.map es c) => match okIter seen es last, leftOf seen es with
          | true, [] => some (.tuple [.bool false], st)
          | true, [(k, v, n)] => match Nat.blt n since with
            | true => some (.tuple [.bool true, k, v], st.putObj r (.miter (some m) since (seen ++ [n]) c))
            | false => none
          | _, _ => none
        | _ => none
      | _ => none
    | _ => none
def b_nextStr (it : AV) (st : St) : Option (AV × St) := match it with
    | .ptr r 0 => match st.heap.get r with
      | some (.siter s pos) => match s.drop pos with
        | [] => some (.tuple [.bool false], st)
        | c :: _ => match Nat.blt c 128 with
          | true => some (.tuple [.bool true, .int .i64 (.ofNat pos), .int .i32 (.ofNat c)], st.putObj r (.siter s (pos + 1)))
          | false => none
      | _ => none
    | _ => none
def b_entry (it : AV) (st : St) : Option (AV × St) := match it with
    | .ptr r 0 => match st.heap.get r with
      | some (.miter (some m) _ seen last) => match st.heap.get m, seen.reverse with
        | some (.map es c), s :: _ => match Nat.beq c last, findBorn s es with
          | true, some (k, v) => some (.tuple [k, v], st)
          | _, _ => none
        | _, _ => none
      | _ => none
    | _ => none
def b_extract (i : Nat) (x : AV) (st : St) : Option (AV × St) := match x with
    | .tuple l => match l[i]? with
      | some v => some (v, st)
      | none => none
    | _ => none
def b_len (g : BTag) (x : AV) (st : St) : Option (AV × St) := match g, x with
    | .num, .str s => some (.int .i64 (.ofNat s.length), st)
    | .sl, .slice _ _ n _ _ => some (.int .i64 (.ofNat n), st)
    | .sl, .nils => some (.int .i64 (.ofNat 0), st)
    | .mp, .nilm => some (.int .i64 (.ofNat 0), st)
    | .mp, .map b => match st.heap.get b with
      | some (.map es _) => some (.int .i64 (.ofNat es.length), st)
      | _ => none
    | _, _ => none
def b_lenC (n : Nat) (st : St) : Option (AV × St) := some (.int .i64 (.ofNat n), st)
def b_app (elem : Nat) (es : Nat) (bytes : Nat) (_zero : List AV) (s : AV) (x : AV) (st : St) : Option (AV × St) := match x with
    | .nils => appA st elem es bytes s [] 0
    | .str l => match Nat.beq es 1 with
      | true => appA st elem es bytes s (l.map fun n => .int .u8 (.ofNat n)) l.length
      | false => none
    | .slice b off n _ es' => match Nat.beq es es', st.rdN b off (n * es) with
      | true, some l => appA st elem es bytes s l n
      | _, _ => none
    | _ => none
def b_copy (es : Nat) (d : AV) (s : AV) (st : St) : Option (AV × St) := match d with
    | .nils => match s with
      | .nils => some (.int .i64 (.ofNat 0), st)
      | .slice _ _ _ _ _ => some (.int .i64 (.ofNat 0), st)
      | _ => none
    | .slice b off n _ es' => match Nat.beq es es' with
      | true => match s with
        | .nils => some (.int .i64 (.ofNat 0), st)
        | .slice b2 off2 n2 _ es2 => match Nat.beq es es2, st.rdN b2 off2 (Nat.min n2 n * es) with
          | true, some l => match st.wrL b off l with
            | some st' => some (.int .i64 (.ofNat (Nat.min n2 n)), st')
            | none => none
          | _, _ => none
        | _ => none
      | false => none
    | _ => none
def b_minI (x : AV) (y : AV) (st : St) : Option (AV × St) := match x, y with
    | .int k a, .int _ b => some (.int k (if b < a then b else a), st)
    | _, _ => none
def b_maxI (x : AV) (y : AV) (st : St) : Option (AV × St) := match x, y with
    | .int k a, .int _ b => some (.int k (if b > a then b else a), st)
    | _, _ => none
def b_clearSl (es : Nat) (zero : List AV) (x : AV) (st : St) : Option (AV × St) := match x with
    | .nils => some (undefA, st)
    | .slice b off n _ es' => match n with
      | 0 => some (undefA, st)
      | _ => match Nat.beq es es', st.wrL b off (List.replicate n zero).flatten with
        | true, some st' => some (undefA, st')
        | _, _ => none
    | _ => none
def b_delete (kk : KK) (m : AV) (k : AV) (st : St) : Option (AV × St) := match m with
    | .nilm => match fitKey kk k with
      | true => some (undefA, st)
      | false => none
    | .map b => match st.heap.get b with
      | some (.map es c) => match findK st kk k es with
        | some (some (i, _, _)) => some (undefA, st.putObj b (.map (dropAt es i) c))
        | some none => some (undefA, st.putObj b (.map es c))
        | none => none
      | _ => none
    | _ => none
def b_usData (x : AV) (st : St) : Option (AV × St) := match x with
    | .nils => some (.nilp, st)
    | .slice b off _ (Nat.succ _) _ => some (.ptr b off, st)
    | _ => none
def b_usStr (elem : Nat) (x : AV) (n : AV) (st : St) : Option (AV × St) := match natOf n with
    | some 0 => match x with
      | .ptr _ _ => some (.str [], st)
      | .nilp => some (.str [], st)
      | _ => none
    | some n => match x with
      | .ptr b off => match st.heap.get b with
        | some (.cells e l fz none) => match Nat.beq e.1 elem, takeVals (l.drop off) n with
          | true, some r => match bytesOf r with
            | some s => some (.str s, st.putObj b (.cells e l (Nat.max fz (off + n)) none))
            | none => none
          | _, _ => none
        | _ => none
      | _ => none
    | none => none
def b_recov  (st : St) : Option (AV × St) := some (.nili, st)
def b_defer (_f : AV) (_args : List AV) (st : St) : Option (AV × St) := none
def b_bad  (st : St) : Option (AV × St) := none
theorem b_build_eq (zero : List AV) (parts : List (Nat × Nat × Rnd)) (tm : Tr AV) (st : St) : b_build zero (partsV tm parts) st = aop (.build zero parts) tm st := by
  simp only [b_build, aop, optNat_V, fillA_V] <;> rfl
theorem b_buildSlice_eq (elem : Nat) (len : Nat) (es : Nat) (zero : List AV) (parts : List (Nat × Nat × Rnd)) (tm : Tr AV) (st : St) : b_buildSlice elem len es zero (partsV tm parts) st = aop (.buildSlice elem len es zero parts) tm st := by
  simp only [b_buildSlice, aop, optNat_V, fillA_V] <;> rfl
theorem b_store_eq (n : Nat) (a : Rnd) (x : Rnd) (tm : Tr AV) (st : St) : b_store n (ev tm a) (ev tm x) st = aop (.store n a x) tm st := by
  simp only [b_store, aop, optNat_V, fillA_V] <;> rfl
theorem b_nilck_eq (x : Rnd) (tm : Tr AV) (st : St) : b_nilck (ev tm x) st = aop (.nilck x) tm st := by
  simp only [b_nilck, aop, optNat_V, fillA_V] <;> rfl
theorem b_bin_eq (g : BTag) (op : BinOp) (x : Rnd) (y : Rnd) (tm : Tr AV) (st : St) : b_bin g op (ev tm x) (ev tm y) st = aop (.bin g op x y) tm st := by
  simp only [b_bin, aop, optNat_V, fillA_V] <;> rfl
theorem b_un_eq (op : UnOp) (x : Rnd) (tm : Tr AV) (st : St) : b_un op (ev tm x) st = aop (.un op x) tm st := by
  simp only [b_un, aop, optNat_V, fillA_V] <;> rfl
theorem b_toInt_eq (k : IntKind) (x : Rnd) (tm : Tr AV) (st : St) : b_toInt k (ev tm x) st = aop (.toInt k x) tm st := by
  simp only [b_toInt, aop, optNat_V, fillA_V] <;> rfl
theorem b_toStr_eq (x : Rnd) (tm : Tr AV) (st : St) : b_toStr (ev tm x) st = aop (.toStr x) tm st := by
  simp only [b_toStr, aop, optNat_V, fillA_V] <;> rfl
theorem b_runeStr_eq (x : Rnd) (tm : Tr AV) (st : St) : b_runeStr (ev tm x) st = aop (.runeStr x) tm st := by
  simp only [b_runeStr, aop, optNat_V, fillA_V] <;> rfl
theorem b_toBytes_eq (elem : Nat) (x : Rnd) (tm : Tr AV) (st : St) : b_toBytes elem (ev tm x) st = aop (.toBytes elem x) tm st := by
  simp only [b_toBytes, aop, optNat_V, fillA_V] <;> rfl
theorem b_strId_eq (x : Rnd) (tm : Tr AV) (st : St) : b_strId (ev tm x) st = aop (.strId x) tm st := by
  simp only [b_strId, aop, optNat_V, fillA_V] <;> rfl
theorem b_ptrUs_eq (x : Rnd) (tm : Tr AV) (st : St) : b_ptrUs (ev tm x) st = aop (.ptrUs x) tm st := by
  simp only [b_ptrUs, aop, optNat_V, fillA_V] <;> rfl
theorem b_usPtr_eq (oks : List (Nat × Nat)) (x : Rnd) (tm : Tr AV) (st : St) : b_usPtr oks (ev tm x) st = aop (.usPtr oks x) tm st := by
  simp only [b_usPtr, aop, optNat_V, fillA_V] <;> rfl
theorem b_mkIface_eq (t : Nat) (x : Rnd) (tm : Tr AV) (st : St) : b_mkIface t (ev tm x) st = aop (.mkIface t x) tm st := by
  simp only [b_mkIface, aop, optNat_V, fillA_V] <;> rfl
theorem b_mkFunc_eq (f : Fn) (a : List Rnd) (b : List Rnd) (tm : Tr AV) (st : St) : b_mkFunc f (evL tm a) (evL tm b) st = aop (.mkFunc f a b) tm st := by
  simp only [b_mkFunc, aop, optNat_V, fillA_V] <;> rfl
theorem b_mkMap_eq  (tm : Tr AV) (st : St) : b_mkMap  st = aop (.mkMap ) tm st := by
  simp only [b_mkMap, aop, optNat_V, fillA_V] <;> rfl
theorem b_mkSlice_eq (elem : Nat) (es : Nat) (bytes : Nat) (zero : List AV) (len : Rnd) (cap : Rnd) (tm : Tr AV) (st : St) : b_mkSlice elem es bytes zero (ev tm len) (ev tm cap) st = aop (.mkSlice elem es bytes zero len cap) tm st := by
  simp only [b_mkSlice, aop, optNat_V, fillA_V] <;> rfl
theorem b_cutSl_eq (es : Nat) (x : Rnd) (lo : Option Rnd) (hi : Option Rnd) (mx : Option Rnd) (tm : Tr AV) (st : St) : b_cutSl es (ev tm x) (optV tm lo) (optV tm hi) (optV tm mx) st = aop (.cutSl es x lo hi mx) tm st := by
  simp only [b_cutSl, aop, optNat_V, fillA_V] <;> rfl
theorem b_cutArr_eq (n : Nat) (es : Nat) (x : Rnd) (lo : Option Rnd) (hi : Option Rnd) (tm : Tr AV) (st : St) : b_cutArr n es (ev tm x) (optV tm lo) (optV tm hi) st = aop (.cutArr n es x lo hi) tm st := by
  simp only [b_cutArr, aop, optNat_V, fillA_V] <;> rfl
theorem b_field_eq (agg : Bool) (off : Nat) (size : Nat) (x : Rnd) (tm : Tr AV) (st : St) : b_field agg off size (ev tm x) st = aop (.field agg off size x) tm st := by
  simp only [b_field, aop, optNat_V, fillA_V] <;> rfl
theorem b_idxArr_eq (len : Nat) (es : Nat) (x : Rnd) (i : Rnd) (tm : Tr AV) (st : St) : b_idxArr len es (ev tm x) (ev tm i) st = aop (.idxArr len es x i) tm st := by
  simp only [b_idxArr, aop, optNat_V, fillA_V] <;> rfl
theorem b_idxAgg_eq (agg : Bool) (len : Nat) (es : Nat) (x : Rnd) (i : Rnd) (tm : Tr AV) (st : St) : b_idxAgg agg len es (ev tm x) (ev tm i) st = aop (.idxAgg agg len es x i) tm st := by
  simp only [b_idxAgg, aop, optNat_V, fillA_V] <;> rfl
theorem b_lookup_eq (kk : KK) (zero : AV) (ok : Bool) (m : Rnd) (k : Rnd) (tm : Tr AV) (st : St) : b_lookup kk zero ok (ev tm m) (ev tm k) st = aop (.lookup kk zero ok m k) tm st := by
  simp only [b_lookup, aop, optNat_V, fillA_V] <;> rfl
theorem b_mapUpd_eq (kk : KK) (m : Rnd) (k : Rnd) (v : Rnd) (tm : Tr AV) (st : St) : b_mapUpd kk (ev tm m) (ev tm k) (ev tm v) st = aop (.mapUpd kk m k v) tm st := by
  simp only [b_mapUpd, aop, optNat_V, fillA_V] <;> rfl
theorem b_mapEnt_eq (kk : KK) (zero : AV) (m : Rnd) (k : Rnd) (tm : Tr AV) (st : St) : b_mapEnt kk zero (ev tm m) (ev tm k) st = aop (.mapEnt kk zero m k) tm st := by
  simp only [b_mapEnt, aop, optNat_V, fillA_V] <;> rfl
theorem b_entSt_eq (m : Rnd) (s : Rnd) (v : Rnd) (tm : Tr AV) (st : St) : b_entSt (ev tm m) (ev tm s) (ev tm v) st = aop (.entSt m s v) tm st := by
  simp only [b_entSt, aop, optNat_V, fillA_V] <;> rfl
theorem b_rangeMap_eq (x : Rnd) (tm : Tr AV) (st : St) : b_rangeMap (ev tm x) st = aop (.rangeMap x) tm st := by
  simp only [b_rangeMap, aop, optNat_V, fillA_V] <;> rfl
theorem b_rangeStr_eq (x : Rnd) (tm : Tr AV) (st : St) : b_rangeStr (ev tm x) st = aop (.rangeStr x) tm st := by
  simp only [b_rangeStr, aop, optNat_V, fillA_V] <;> rfl
theorem b_nextMap_eq (it : Rnd) (tm : Tr AV) (st : St) : b_nextMap (ev tm it) st = aop (.nextMap it) tm st := by
  simp only [b_nextMap, aop, optNat_V, fillA_V] <;> rfl
theorem b_nextStr_eq (it : Rnd) (tm : Tr AV) (st : St) : b_nextStr (ev tm it) st = aop (.nextStr it) tm st := by
  simp only [b_nextStr, aop, optNat_V, fillA_V] <;> rfl
theorem b_entry_eq (it : Rnd) (tm : Tr AV) (st : St) : b_entry (ev tm it) st = aop (.entry it) tm st := by
  simp only [b_entry, aop, optNat_V, fillA_V] <;> rfl
theorem b_extract_eq (i : Nat) (x : Rnd) (tm : Tr AV) (st : St) : b_extract i (ev tm x) st = aop (.extract i x) tm st := by
  simp only [b_extract, aop, optNat_V, fillA_V] <;> rfl
theorem b_len_eq (g : BTag) (x : Rnd) (tm : Tr AV) (st : St) : b_len g (ev tm x) st = aop (.len g x) tm st := by
  simp only [b_len, aop, optNat_V, fillA_V] <;> rfl
theorem b_lenC_eq (n : Nat) (tm : Tr AV) (st : St) : b_lenC n st = aop (.lenC n) tm st := by
  simp only [b_lenC, aop, optNat_V, fillA_V] <;> rfl
theorem b_app_eq (elem : Nat) (es : Nat) (bytes : Nat) (_zero : List AV) (s : Rnd) (x : Rnd) (tm : Tr AV) (st : St) : b_app elem es bytes _zero (ev tm s) (ev tm x) st = aop (.app elem es bytes _zero s x) tm st := by
  simp only [b_app, aop, optNat_V, fillA_V] <;> rfl
theorem b_copy_eq (es : Nat) (d : Rnd) (s : Rnd) (tm : Tr AV) (st : St) : b_copy es (ev tm d) (ev tm s) st = aop (.copy es d s) tm st := by
  simp only [b_copy, aop, optNat_V, fillA_V] <;> rfl
theorem b_minI_eq (x : Rnd) (y : Rnd) (tm : Tr AV) (st : St) : b_minI (ev tm x) (ev tm y) st = aop (.minI x y) tm st := by
  simp only [b_minI, aop, optNat_V, fillA_V] <;> rfl
theorem b_maxI_eq (x : Rnd) (y : Rnd) (tm : Tr AV) (st : St) : b_maxI (ev tm x) (ev tm y) st = aop (.maxI x y) tm st := by
  simp only [b_maxI, aop, optNat_V, fillA_V] <;> rfl
theorem b_clearSl_eq (es : Nat) (zero : List AV) (x : Rnd) (tm : Tr AV) (st : St) : b_clearSl es zero (ev tm x) st = aop (.clearSl es zero x) tm st := by
  simp only [b_clearSl, aop, optNat_V, fillA_V] <;> rfl
theorem b_delete_eq (kk : KK) (m : Rnd) (k : Rnd) (tm : Tr AV) (st : St) : b_delete kk (ev tm m) (ev tm k) st = aop (.delete kk m k) tm st := by
  simp only [b_delete, aop, optNat_V, fillA_V] <;> rfl
theorem b_usData_eq (x : Rnd) (tm : Tr AV) (st : St) : b_usData (ev tm x) st = aop (.usData x) tm st := by
  simp only [b_usData, aop, optNat_V, fillA_V] <;> rfl
theorem b_usStr_eq (elem : Nat) (x : Rnd) (n : Rnd) (tm : Tr AV) (st : St) : b_usStr elem (ev tm x) (ev tm n) st = aop (.usStr elem x n) tm st := by
  simp only [b_usStr, aop, optNat_V, fillA_V] <;> rfl
theorem b_recov_eq  (tm : Tr AV) (st : St) : b_recov  st = aop (.recov ) tm st := by
  simp only [b_recov, aop, optNat_V, fillA_V] <;> rfl
theorem b_defer_eq (_f : Rnd) (_args : List Rnd) (tm : Tr AV) (st : St) : b_defer (ev tm _f) (evL tm _args) st = aop (.defer _f _args) tm st := by
  simp only [b_defer, aop, optNat_V, fillA_V] <;> rfl
theorem b_bad_eq  (tm : Tr AV) (st : St) : b_bad  st = aop (.bad ) tm st := by
  simp only [b_bad, aop, optNat_V, fillA_V] <;> rfl
abbrev R := Option (AV × St)
abbrev KV := AV → St → R
abbrev KT := Tr AV → St → R
abbrev KO := AOut → Tr AV → List Nat → St → R
abbrev CK := AV → List AV → St → KV → R
inductive Wr (α : Type) where
  | mk (f : α)
noncomputable section
def Wr.out {α : Type} : Wr α → α := @Wr.rec α (fun _ => α) (fun f => f)
def w1 {α β : Type} (a : Wr α) (f : α → β) : Wr β := @Wr.rec α (fun _ => Wr β) (fun x => .mk (f x)) a
def w2 {α β γ : Type} (a : Wr α) (b : Wr β) (f : α → β → γ) : Wr γ := @Wr.rec α (fun _ => Wr γ) (fun x => w1 b (f x)) a
def w3 {α β γ δ : Type} (a : Wr α) (b : Wr β) (c : Wr γ) (f : α → β → γ → δ) : Wr δ := @Wr.rec α (fun _ => Wr δ) (fun x => w2 b c (f x)) a
def w4 {α β γ δ ε : Type} (a : Wr α) (b : Wr β) (c : Wr γ) (d : Wr δ) (f : α → β → γ → δ → ε) : Wr ε := @Wr.rec α (fun _ => Wr ε) (fun x => w3 b c d (f x)) a
def s16_0_2 (k : Nat) : S16 := @Bool.rec (fun _ => S16) .s0 .s1 (Nat.ble 1 k)
def s16_2_4 (k : Nat) : S16 := @Bool.rec (fun _ => S16) .s2 .s3 (Nat.ble 3 k)
def s16_0_4 (k : Nat) : S16 := @Bool.rec (fun _ => S16) (s16_0_2 k) (s16_2_4 k) (Nat.ble 2 k)
def s16_4_6 (k : Nat) : S16 := @Bool.rec (fun _ => S16) .s4 .s5 (Nat.ble 5 k)
def s16_6_8 (k : Nat) : S16 := @Bool.rec (fun _ => S16) .s6 .s7 (Nat.ble 7 k)
def s16_4_8 (k : Nat) : S16 := @Bool.rec (fun _ => S16) (s16_4_6 k) (s16_6_8 k) (Nat.ble 6 k)
def s16_0_8 (k : Nat) : S16 := @Bool.rec (fun _ => S16) (s16_0_4 k) (s16_4_8 k) (Nat.ble 4 k)
def s16_8_10 (k : Nat) : S16 := @Bool.rec (fun _ => S16) .s8 .s9 (Nat.ble 9 k)
def s16_10_12 (k : Nat) : S16 := @Bool.rec (fun _ => S16) .sa .sb (Nat.ble 11 k)
def s16_8_12 (k : Nat) : S16 := @Bool.rec (fun _ => S16) (s16_8_10 k) (s16_10_12 k) (Nat.ble 10 k)
def s16_12_14 (k : Nat) : S16 := @Bool.rec (fun _ => S16) .sc .sd (Nat.ble 13 k)
def s16_14_16 (k : Nat) : S16 := @Bool.rec (fun _ => S16) .se .sf (Nat.ble 15 k)
def s16_12_16 (k : Nat) : S16 := @Bool.rec (fun _ => S16) (s16_12_14 k) (s16_14_16 k) (Nat.ble 14 k)
def s16_8_16 (k : Nat) : S16 := @Bool.rec (fun _ => S16) (s16_8_12 k) (s16_12_16 k) (Nat.ble 12 k)
def s16_0_16 (k : Nat) : S16 := @Bool.rec (fun _ => S16) (s16_0_8 k) (s16_8_16 k) (Nat.ble 8 k)
def s16 (k : Nat) : S16 := s16_0_16 k
def sel {α : Type} : S16 → Wr (N16 α → α) := @S16.rec (fun _ => Wr (N16 α → α)) (.mk fun t => t.a0) (.mk fun t => t.a1) (.mk fun t => t.a2) (.mk fun t => t.a3) (.mk fun t => t.a4) (.mk fun t => t.a5) (.mk fun t => t.a6) (.mk fun t => t.a7) (.mk fun t => t.a8) (.mk fun t => t.a9) (.mk fun t => t.aa) (.mk fun t => t.ab) (.mk fun t => t.ac) (.mk fun t => t.ad) (.mk fun t => t.ae) (.mk fun t => t.af)
def upd {α : Type} : S16 → Wr (α → N16 α → N16 α) := @S16.rec (fun _ => Wr (α → N16 α → N16 α)) (.mk (fun v => @N16.rec α (fun _ => N16 α) (fun _ a1 a2 a3 a4 a5 a6 a7 a8 a9 aa ab ac ad ae af => .n v a1 a2 a3 a4 a5 a6 a7 a8 a9 aa ab ac ad ae af))) (.mk (fun v => @N16.rec α (fun _ => N16 α) (fun a0 _ a2 a3 a4 a5 a6 a7 a8 a9 aa ab ac ad ae af => .n a0 v a2 a3 a4 a5 a6 a7 a8 a9 aa ab ac ad ae af))) (.mk (fun v => @N16.rec α (fun _ => N16 α) (fun a0 a1 _ a3 a4 a5 a6 a7 a8 a9 aa ab ac ad ae af => .n a0 a1 v a3 a4 a5 a6 a7 a8 a9 aa ab ac ad ae af))) (.mk (fun v => @N16.rec α (fun _ => N16 α) (fun a0 a1 a2 _ a4 a5 a6 a7 a8 a9 aa ab ac ad ae af => .n a0 a1 a2 v a4 a5 a6 a7 a8 a9 aa ab ac ad ae af))) (.mk (fun v => @N16.rec α (fun _ => N16 α) (fun a0 a1 a2 a3 _ a5 a6 a7 a8 a9 aa ab ac ad ae af => .n a0 a1 a2 a3 v a5 a6 a7 a8 a9 aa ab ac ad ae af))) (.mk (fun v => @N16.rec α (fun _ => N16 α) (fun a0 a1 a2 a3 a4 _ a6 a7 a8 a9 aa ab ac ad ae af => .n a0 a1 a2 a3 a4 v a6 a7 a8 a9 aa ab ac ad ae af))) (.mk (fun v => @N16.rec α (fun _ => N16 α) (fun a0 a1 a2 a3 a4 a5 _ a7 a8 a9 aa ab ac ad ae af => .n a0 a1 a2 a3 a4 a5 v a7 a8 a9 aa ab ac ad ae af))) (.mk (fun v => @N16.rec α (fun _ => N16 α) (fun a0 a1 a2 a3 a4 a5 a6 _ a8 a9 aa ab ac ad ae af => .n a0 a1 a2 a3 a4 a5 a6 v a8 a9 aa ab ac ad ae af))) (.mk (fun v => @N16.rec α (fun _ => N16 α) (fun a0 a1 a2 a3 a4 a5 a6 a7 _ a9 aa ab ac ad ae af => .n a0 a1 a2 a3 a4 a5 a6 a7 v a9 aa ab ac ad ae af))) (.mk (fun v => @N16.rec α (fun _ => N16 α) (fun a0 a1 a2 a3 a4 a5 a6 a7 a8 _ aa ab ac ad ae af => .n a0 a1 a2 a3 a4 a5 a6 a7 a8 v aa ab ac ad ae af))) (.mk (fun v => @N16.rec α (fun _ => N16 α) (fun a0 a1 a2 a3 a4 a5 a6 a7 a8 a9 _ ab ac ad ae af => .n a0 a1 a2 a3 a4 a5 a6 a7 a8 a9 v ab ac ad ae af))) (.mk (fun v => @N16.rec α (fun _ => N16 α) (fun a0 a1 a2 a3 a4 a5 a6 a7 a8 a9 aa _ ac ad ae af => .n a0 a1 a2 a3 a4 a5 a6 a7 a8 a9 aa v ac ad ae af))) (.mk (fun v => @N16.rec α (fun _ => N16 α) (fun a0 a1 a2 a3 a4 a5 a6 a7 a8 a9 aa ab _ ad ae af => .n a0 a1 a2 a3 a4 a5 a6 a7 a8 a9 aa ab v ad ae af))) (.mk (fun v => @N16.rec α (fun _ => N16 α) (fun a0 a1 a2 a3 a4 a5 a6 a7 a8 a9 aa ab ac _ ae af => .n a0 a1 a2 a3 a4 a5 a6 a7 a8 a9 aa ab ac v ae af))) (.mk (fun v => @N16.rec α (fun _ => N16 α) (fun a0 a1 a2 a3 a4 a5 a6 a7 a8 a9 aa ab ac ad _ af => .n a0 a1 a2 a3 a4 a5 a6 a7 a8 a9 aa ab ac ad v af))) (.mk (fun v => @N16.rec α (fun _ => N16 α) (fun a0 a1 a2 a3 a4 a5 a6 a7 a8 a9 aa ab ac ad ae _ => .n a0 a1 a2 a3 a4 a5 a6 a7 a8 a9 aa ab ac ad ae v)))
def optD : Option AV → AV := @Option.rec AV (fun _ => AV) undefA (fun v => v)
def rdT (t : Nat) : Wr (Tr AV → AV) := @Bool.rec (fun _ => Wr (Tr AV → AV)) (.mk fun tm => optD (Tr.get tm t))
  (w2 (sel (s16 (Nat.div t 16))) (sel (s16 (Nat.mod t 16))) fun gh gl tm => optD (gl (gh tm.lo))) (Nat.blt t 256)
def wrT (t : Nat) : Wr (AV → Tr AV → Tr AV) := @Bool.rec (fun _ => Wr (AV → Tr AV → Tr AV)) (.mk fun v tm => Tr.set v tm t)
  (w3 (sel (s16 (Nat.div t 16))) (upd (s16 (Nat.div t 16))) (upd (s16 (Nat.mod t 16))) fun gh uh ul v => @Tr.rec AV (fun _ => Tr AV) (fun lo hi big => ⟨uh (ul (some v) (gh lo)) lo, hi, big⟩)) (Nat.blt t 256)
def get2F {α : Type} (n : N16 (N16 (Option α))) (k : Nat) : Option α := @Wr.rec _ (fun _ => Option α) (fun gh => @Wr.rec _ (fun _ => Option α) (fun gl => gl (gh n)) (sel (s16 (Nat.mod k 16)))) (sel (s16 (Nat.div k 16)))
def set2F {α : Type} (x : α) (n : N16 (N16 (Option α))) (k : Nat) : N16 (N16 (Option α)) := @Wr.rec _ (fun _ => N16 (N16 (Option α))) (fun gh => @Wr.rec _ (fun _ => N16 (N16 (Option α))) (fun uh => @Wr.rec _ (fun _ => N16 (N16 (Option α))) (fun ul => uh (ul (some x) (gh n)) n) (upd (s16 (Nat.mod k 16)))) (upd (s16 (Nat.div k 16)))) (sel (s16 (Nat.div k 16)))
def getF {α : Type} : Tr α → Nat → Option α := @Tr.rec α (fun _ => Nat → Option α) (fun lo hi big k => @Bool.rec (fun _ => Option α) (@Bool.rec (fun _ => Option α) (Tb.get big k)
  (get2F (@Wr.rec _ (fun _ => N16 (N16 (Option α))) (fun g1 => @Wr.rec _ (fun _ => N16 (N16 (Option α))) (fun g2 => g2 (g1 hi)) (sel (s16 (Nat.mod (Nat.div k 256) 16)))) (sel (s16 (Nat.div k 4096)))) (Nat.mod k 256)) (Nat.blt k 65536)) (get2F lo k) (Nat.blt k 256))
def set4F {α : Type} (x : α) (n : N16 (N16 (N16 (N16 (Option α))))) (k : Nat) : N16 (N16 (N16 (N16 (Option α)))) :=
  @Wr.rec _ (fun _ => N16 (N16 (N16 (N16 (Option α))))) (fun g1 => @Wr.rec _ (fun _ => N16 (N16 (N16 (N16 (Option α))))) (fun u1 => @Wr.rec _ (fun _ => N16 (N16 (N16 (N16 (Option α))))) (fun g2 => @Wr.rec _ (fun _ => N16 (N16 (N16 (N16 (Option α))))) (fun u2 =>
    u1 (u2 (set2F x (g2 (g1 n)) (Nat.mod k 256)) (g1 n)) n) (upd (s16 (Nat.mod (Nat.div k 256) 16)))) (sel (s16 (Nat.mod (Nat.div k 256) 16)))) (upd (s16 (Nat.div k 4096)))) (sel (s16 (Nat.div k 4096)))
def setF {α : Type} (x : α) : Tr α → Nat → Tr α := @Tr.rec α (fun _ => Nat → Tr α) (fun lo hi big k => @Bool.rec (fun _ => Tr α) (@Bool.rec (fun _ => Tr α) ⟨lo, hi, Tb.set x big k⟩ ⟨lo, set4F x hi k, big⟩ (Nat.blt k 65536)) ⟨set2F x lo k, hi, big⟩ (Nat.blt k 256))
def rdR : Rnd → Wr (Tr AV → AV) := @Rnd.rec (fun _ => Wr (Tr AV → AV)) (fun t => rdT t) (fun v => .mk fun _ => v) (fun f => .mk fun _ => .func (.func f) [] [])
def rdL : List Rnd → Wr (Tr AV → List AV) := @List.rec Rnd (fun _ => Wr (Tr AV → List AV)) (.mk fun _ => []) (fun r _ ih => w2 (rdR r) ih fun g gs tm => g tm :: gs tm)
def rdO : Option Rnd → Wr (Tr AV → Option AV) := @Option.rec Rnd (fun _ => Wr (Tr AV → Option AV)) (.mk fun _ => none) (fun r => w1 (rdR r) fun g tm => some (g tm))
def rdP : List (Nat × Nat × Rnd) → Wr (Tr AV → List (Nat × Nat × AV)) := @List.rec (Nat × Nat × Rnd) (fun _ => Wr (Tr AV → List (Nat × Nat × AV))) (.mk fun _ => []) (fun p _ ih => w2 (rdR p.2.2) ih fun g gs tm => (p.1, p.2.1, g tm) :: gs tm)
def wrO : Option Nat → Wr (AV → Tr AV → Tr AV) := @Option.rec Nat (fun _ => Wr (AV → Tr AV → Tr AV)) (.mk fun _ tm => tm) (fun t => wrT t)
def asBool : AV → R → R → R → R := @AV.rec (fun _ => R → R → R → R) (fun _ => PUnit) (fun b f t _ => @Bool.rec (fun _ => R) f t b) (fun _ _ _ _ d => d) (fun _ _ _ d => d) (fun _ _ _ _ d => d) (fun _ _ d => d) (fun _ _ _ _ _ _ _ d => d) (fun _ _ d => d) (fun _ _ _ d => d) (fun _ _ d => d) (fun _ _ _ _ _ _ _ d => d) (fun _ _ d => d) (fun _ _ _ d => d) (fun _ _ _ _ _ d => d) (fun _ _ d => d) (fun _ _ _ _ d => d) (fun _ _ _ _ d => d) PUnit.unit (fun _ _ _ _ => PUnit.unit)
def asInt : AV → (IntKind → Int → R) → R → R := @AV.rec (fun _ => (IntKind → Int → R) → R → R) (fun _ => PUnit) (fun _ _ d => d) (fun k n f _ => f k n) (fun _ _ d => d) (fun _ _ _ d => d) (fun _ d => d) (fun _ _ _ _ _ _ d => d) (fun _ d => d) (fun _ _ d => d) (fun _ d => d) (fun _ _ _ _ _ _ d => d) (fun _ d => d) (fun _ _ d => d) (fun _ _ _ _ d => d) (fun _ d => d) (fun _ _ _ d => d) (fun _ _ _ d => d) PUnit.unit (fun _ _ _ _ => PUnit.unit)
def asStr : AV → (List Nat → R) → R → R := @AV.rec (fun _ => (List Nat → R) → R → R) (fun _ => PUnit) (fun _ _ d => d) (fun _ _ _ d => d) (fun s f _ => f s) (fun _ _ _ d => d) (fun _ d => d) (fun _ _ _ _ _ _ d => d) (fun _ d => d) (fun _ _ d => d) (fun _ d => d) (fun _ _ _ _ _ _ d => d) (fun _ d => d) (fun _ _ d => d) (fun _ _ _ _ d => d) (fun _ d => d) (fun _ _ _ d => d) (fun _ _ _ d => d) PUnit.unit (fun _ _ _ _ => PUnit.unit)
def asPtr : AV → (Nat → Nat → R) → R → R := @AV.rec (fun _ => (Nat → Nat → R) → R → R) (fun _ => PUnit) (fun _ _ d => d) (fun _ _ _ d => d) (fun _ _ d => d) (fun b o f _ => f b o) (fun _ d => d) (fun _ _ _ _ _ _ d => d) (fun _ d => d) (fun _ _ d => d) (fun _ d => d) (fun _ _ _ _ _ _ d => d) (fun _ d => d) (fun _ _ d => d) (fun _ _ _ _ d => d) (fun _ d => d) (fun _ _ _ d => d) (fun _ _ _ d => d) PUnit.unit (fun _ _ _ _ => PUnit.unit)
def asSl : AV → (Nat → Nat → Nat → Nat → Nat → R) → R → R := @AV.rec (fun _ => (Nat → Nat → Nat → Nat → Nat → R) → R → R) (fun _ => PUnit) (fun _ _ d => d) (fun _ _ _ d => d) (fun _ _ d => d) (fun _ _ _ d => d) (fun _ d => d) (fun b o l c e f _ => f b o l c e) (fun _ d => d) (fun _ _ d => d) (fun _ d => d) (fun _ _ _ _ _ _ d => d) (fun _ d => d) (fun _ _ d => d) (fun _ _ _ _ d => d) (fun _ d => d) (fun _ _ _ d => d) (fun _ _ _ d => d) PUnit.unit (fun _ _ _ _ => PUnit.unit)
def asFunc : AV → (Fn → List AV → List AV → R) → (Nat → R) → R := @AV.rec (fun _ => (Fn → List AV → List AV → R) → (Nat → R) → R) (fun _ => PUnit) (fun _ _ _ => none) (fun _ _ _ _ => none) (fun _ _ _ => none) (fun _ _ _ _ => none) (fun _ _ => none) (fun _ _ _ _ _ _ _ => none) (fun _ _ => none) (fun _ _ _ => none) (fun _ _ => none) (fun fn a b _ _ f _ => f fn a b) (fun _ _ => none) (fun l _ g => g l) (fun _ _ _ _ _ => none) (fun _ _ => none) (fun _ _ _ _ => none) (fun _ _ _ _ => none) PUnit.unit (fun _ _ _ _ => PUnit.unit)
def asCell : AV → R → (List AV → R) → R → R := @AV.rec (fun _ => R → (List AV → R) → R → R) (fun _ => PUnit) (fun _ o _ _ => o) (fun _ _ o _ _ => o) (fun _ o _ _ => o) (fun _ _ o _ _ => o) (fun o _ _ => o) (fun _ _ _ _ _ o _ _ => o) (fun o _ _ => o) (fun _ o _ _ => o) (fun o _ _ => o) (fun _ _ _ _ _ o _ _ => o) (fun o _ _ => o) (fun _ o _ _ => o) (fun _ _ _ o _ _ => o) (fun o _ _ => o) (fun l _ _ f _ => f l) (fun _ _ _ _ t => t) PUnit.unit (fun _ _ _ _ => PUnit.unit)
abbrev KC := Nat × Bool → List (Option AV) → Nat → Option Nat → R
def asCells : Option AObj → KC → R := @Option.rec AObj (fun _ => KC → R) (fun _ => none) (@AObj.rec (fun _ => KC → R) (fun e l fz k f => f e l fz k) (fun _ _ _ => none) (fun _ _ _ _ _ => none) (fun _ _ _ => none) (fun _ _ _ _ _ _ _ _ _ => none) (fun _ _ => none) (fun _ => none))
abbrev KS := Tr AObj → Nat → Nat → List Nat → R
def stK : St → KS → R := @St.rec (fun _ => KS → R) (fun h n t l f => f h n t l)
def nthK : List (Option AV) → Nat → (AV → R) → R := @List.rec (Option AV) (fun _ => Nat → (AV → R) → R) (fun _ _ => none) (fun x _ ih n f => @Nat.rec (fun _ => R) (@Option.rec AV (fun _ => R) none f x) (fun m _ => ih m f) n)
def nthN : List Nat → Nat → (Nat → R) → R := @List.rec Nat (fun _ => Nat → (Nat → R) → R) (fun _ _ => none) (fun x _ ih n f => @Nat.rec (fun _ => R) (f x) (fun m _ => ih m f) n)
def lenF : List Nat → Nat := @List.rec Nat (fun _ => Nat) 0 (fun _ _ ih => Nat.succ ih)
def dropNF : Nat → List Nat → List Nat := @Nat.rec (fun _ => List Nat → List Nat) (fun l => l) (fun _ ih => @List.rec Nat (fun _ => List Nat) [] (fun _ l _ => ih l))
def dropB (s : List Nat) : Nat → List Nat := @Nat.rec (fun _ => List Nat) s (fun _ ih => dropNF 16 ih)
def takeNF : Nat → List Nat → List Nat := @Nat.rec (fun _ => List Nat → List Nat) (fun _ => []) (fun _ ih => @List.rec Nat (fun _ => List Nat) [] (fun x l _ => x :: ih l))
def dropS (n : Nat) (s : List Nat) : List Nat := dropNF (Nat.mod n 16) (dropB s (Nat.div n 16))
def guardB (b : Bool) (r : R) : R := @Bool.rec (fun _ => R) none r b
def optK : Option (AV × St) → KV → R := @Option.rec (AV × St) (fun _ => KV → R) (fun _ => none) (@Prod.rec AV St (fun _ => KV → R) (fun v st k => k v st))
def v_load1 (v : AV) (st : St) (k : KV) : R := asPtr v (fun b off => stK st fun h n t l => asCells (getF h b) fun _ c _ _ => nthK c off fun v => k v (St.mk h n t l)) none
def dropF : Nat → List (Option AV) → List (Option AV) := @Nat.rec (fun _ => List (Option AV) → List (Option AV)) (fun l => l) (fun _ ih => @List.rec (Option AV) (fun _ => List (Option AV)) [] (fun _ l _ => ih l))
def takeK : Nat → List (Option AV) → (List AV → R) → R := @Nat.rec (fun _ => List (Option AV) → (List AV → R) → R) (fun _ k => k []) (fun _ ih l k => @List.rec (Option AV) (fun _ => R) none (fun x l _ => @Option.rec AV (fun _ => R) none (fun v => ih l fun r => k (v :: r)) x) l)
def v_loadN (n : Nat) (v : AV) (st : St) (k : KV) : R := asPtr v (fun b off => stK st fun h nx t l => asCells (getF h b) fun _ c _ _ => takeK n (dropF off c) fun r => k (.agg r) (St.mk h nx t l)) none
def v_fieldAddr (off : Nat) (v : AV) (st : St) (k : KV) : R := asPtr v (fun b o => k (.ptr b (Nat.add o off)) st) none
def natK (v : AV) (k : Nat → R) : R := asInt v (fun _ n => @Int.rec (fun _ => R) k (fun _ => none) n) none
def v_idxStr (x i : AV) (st : St) (k : KV) : R := asStr x (fun s => natK i fun n => nthN (dropB s (Nat.div n 16)) (Nat.mod n 16) fun c => k (.int .u8 (.ofNat c)) st) none
def natO (d : Nat) (o : Option AV) (k : Nat → R) : R := @Option.rec AV (fun _ => R) (k d) (fun v => natK v k) o
def v_cutStr (x : AV) (lo hi : Option AV) (st : St) (k : KV) : R := asStr x (fun s => natO 0 lo fun l => @Option.rec AV (fun _ => R) (guardB (Nat.ble l (lenF s)) (k (.str (dropS l s)) st))
  (fun v => natK v fun h => guardB (Nat.ble l h) (guardB (Nat.ble h (lenF s)) (k (.str (takeNF (Nat.sub h l) (dropS l s))) st))) hi) none
def v_idxSl (es : Nat) (x i : AV) (st : St) (k : KV) : R := asSl x (fun b off len _ es' => natK i fun n => guardB (Nat.blt n len) (guardB (Nat.beq es es') (k (.ptr b (Nat.add off (Nat.mul n es))) st))) none
def mapSome : List AV → List (Option AV) := @List.rec AV (fun _ => List (Option AV)) [] (fun v _ ih => some v :: ih)
def v_new (elem : Nat) (c : List AV) (st : St) (k : KV) : R := stK st fun h n t l => k (.ptr n 0) (St.mk (setF (.cells (elem, true) (mapSome c) 0 none) h n) (Nat.succ n) t l)
def v_box (elem : Nat) (x : AV) (st : St) (k : KV) : R := asCell x (v_new elem [x] st k) (fun c => v_new elem c st k) (v_new elem [x] st k)
def setNthK : List (Option AV) → Nat → AV → (List (Option AV) → R) → R := @List.rec (Option AV) (fun _ => Nat → AV → (List (Option AV) → R) → R) (fun _ _ _ => none) (fun x l ih n v k => @Nat.rec (fun _ => R) (k (some v :: l)) (fun m _ => ih m v fun r => k (x :: r)) n)
def logF (t b : Nat) (l : List Nat) : List Nat := @Bool.rec (fun _ => List Nat) (b :: l) l (Nat.ble t b)
def oneF : AV → Bool := @AV.rec (fun _ => Bool) (fun _ => PUnit) (fun _ => true) (fun _ _ => true) (fun _ => true) (fun _ _ => true) true (fun _ _ _ _ _ => true) true (fun _ => true) true (fun _ _ _ _ _ => true) true (fun _ => true) (fun _ _ _ => true) true (fun _ _ => false) (fun _ _ => false) PUnit.unit (fun _ _ _ _ => PUnit.unit)
def overK : List AV → List (Option AV) → (List (Option AV) → R) → R := @List.rec AV (fun _ => List (Option AV) → (List (Option AV) → R) → R) (fun l k => k l) (fun v _ ih l k => @List.rec (Option AV) (fun _ => R) none (fun _ l _ => guardB (oneF v) (ih l fun r => k (some v :: r))) l)
def overAtK (c : List AV) : Nat → List (Option AV) → (List (Option AV) → R) → R := @Nat.rec (fun _ => List (Option AV) → (List (Option AV) → R) → R) (fun l k => overK c l k) (fun _ ih l k => @List.rec (Option AV) (fun _ => R) none (fun x l _ => ih l fun r => k (x :: r)) l)
def lenA : List AV → Nat := @List.rec AV (fun _ => Nat) 0 (fun _ _ ih => Nat.succ ih)
def logN (t b : Nat) : List AV → List Nat → List Nat := @List.rec AV (fun _ => List Nat → List Nat) (fun l => l) (fun _ _ ih l => ih (logF t b l))
def v_storeL (n : Nat) (a : AV) (c : List AV) (slow : R) (st : St) (k : KV) : R := asPtr a (fun b off => stK st fun h nx t l => asCells (getF h b) fun e cs fz kin => @Option.rec Nat (fun _ => R) (guardB (Nat.beq (lenA c) n) (guardB (Nat.ble fz off) (guardB (Nat.blt b 65536) (overAtK c off cs fun c' => k undefA (St.mk (setF (.cells e c' fz none) h b) nx t (logN t b c l)))))) (fun _ => slow) kin) none
def v_store (n : Nat) (a x : AV) (slow : R) (st : St) (k : KV) : R := asCell x
  (asPtr a (fun b off => stK st fun h nx t l => asCells (getF h b) fun e c fz kin => @Option.rec Nat (fun _ => R) (guardB (Nat.beq 1 n) (guardB (Nat.ble fz off) (setNthK c off x fun c' => k undefA (St.mk (setF (.cells e c' fz none) h b) nx t (logF t b l))))) (fun _ => slow) kin) none)
  (fun c => @List.rec AV (fun _ => R) slow (fun _ _ _ => v_storeL n a c slow st k) c) slow
def maxF : IntKind → Nat := @IntKind.rec (fun _ => Nat) 127 32767 2147483647 9223372036854775807 255 65535 4294967295 18446744073709551615
def fitK (kd : IntKind) (s : Nat) (y d : R) : R := @Bool.rec (fun _ => R) d y (Nat.ble s (maxF kd))
def notF : Bool → Bool := @Bool.rec (fun _ => Bool) true false
def intBin (op : BinOp) (kd : IntKind) (a b : Int) (d : R) (k : Bool → R) (kn : Nat → R) : R :=
  @Int.rec (fun _ => R) (fun a => @Int.rec (fun _ => R) (fun b => @BinOp.rec (fun _ => R) (fitK kd (Nat.add a b) (kn (Nat.add a b)) d) (@Bool.rec (fun _ => R) d (fitK kd (Nat.sub a b) (kn (Nat.sub a b)) d) (Nat.ble b a)) d d d d d d d d d (k (Nat.beq a b)) (k (notF (Nat.beq a b))) (k (Nat.blt a b)) (k (Nat.ble a b)) (k (Nat.blt b a)) (k (Nat.ble b a)) op) (fun _ => d) b) (fun _ => d) a
def eqLF : List Nat → List Nat → Bool := @List.rec Nat (fun _ => List Nat → Bool) (@List.rec Nat (fun _ => Bool) true (fun _ _ _ => false)) (fun x _ ih => @List.rec Nat (fun _ => Bool) false (fun y l _ => @Bool.rec (fun _ => Bool) false (ih l) (Nat.beq x y)))
def ltLF : List Nat → List Nat → Bool := @List.rec Nat (fun _ => List Nat → Bool) (@List.rec Nat (fun _ => Bool) false (fun _ _ _ => true)) (fun x _ ih => @List.rec Nat (fun _ => Bool) false (fun y l _ => @Bool.rec (fun _ => Bool) (@Bool.rec (fun _ => Bool) false (ih l) (Nat.beq x y)) true (Nat.blt x y)))
def strBin (op : BinOp) (a b : List Nat) (d : R) (k : Bool → R) : R := @BinOp.rec (fun _ => R) d d d d d d d d d d d (k (eqLF a b)) (k (notF (eqLF a b))) (k (ltLF a b)) d d d op
def kindEq (a b : IntKind) (y d : R) : R := @Bool.rec (fun _ => R) d y (Nat.beq (maxF a) (maxF b))
def isNum : BTag → R → R → R := @BTag.rec (fun _ => R → R → R) (fun y _ => y) (fun _ d => d) (fun _ d => d) (fun _ d => d) (fun _ d => d) (fun _ d => d) (fun _ d => d) (fun _ _ d => d)
def v_bin (g : BTag) (op : BinOp) (x y : AV) (slow : R) (st : St) (k : KV) : R := isNum g
  (asInt x (fun kd a => asInt y (fun kd' b => kindEq kd kd' (intBin op kd a b slow (fun r => k (.bool r) st) (fun n => k (.int kd (.ofNat n)) st)) slow) slow)
    (asStr x (fun a => asStr y (fun b => strBin op a b slow (fun r => k (.bool r) st)) slow) slow)) slow
def v_len (g : BTag) (x : AV) (slow : R) (st : St) (k : KV) : R := @BTag.rec (fun _ => R) (asStr x (fun s => k (.int .i64 (.ofNat (lenF s))) st) slow) slow slow (asSl x (fun _ _ n _ _ => k (.int .i64 (.ofNat n)) st) slow) slow slow slow (fun _ => slow) g
def v_un (op : UnOp) (x : AV) (slow : R) (st : St) (k : KV) : R := @UnOp.rec (fun _ => R) slow slow (asBool x (k (.bool true) st) (k (.bool false) st) slow) slow op
abbrev OK := CK → Tr AV → St → KV → R
def cOp : AOp → Wr OK := @AOp.rec (fun _ => Wr OK) (fun x => w1 (rdR x) fun g _ tm st k => k (g tm) st)
  (fun a b c => w3 (rdR a) (rdR b) (rdR c) fun f g h _ tm st k => asBool (f tm) (k (h tm) st) (k (g tm) st) none)
  (fun e z => .mk fun _ _ st k => v_new e z st k)
  (fun e x => w1 (rdR x) fun g _ tm st k => v_box e (g tm) st k)
  (fun zero parts => w1 (rdP parts) fun g0 _ tm st q => optK (b_build zero (g0 tm) st) q)
  (fun elem len es zero parts => w1 (rdP parts) fun g0 _ tm st q => optK (b_buildSlice elem len es zero (g0 tm) st) q)
  (fun a => w1 (rdR a) fun g _ tm st k => v_load1 (g tm) st k)
  (fun n a => w1 (rdR a) fun g _ tm st k => v_loadN n (g tm) st k)
  (fun n a x => w2 (rdR a) (rdR x) fun g h _ tm st k => v_store n (g tm) (h tm) (optK (b_store n (g tm) (h tm) st) k) st k)
  (fun x => w1 (rdR x) fun g0 _ tm st q => optK (b_nilck (g0 tm) st) q)
  (fun t op x y => w2 (rdR x) (rdR y) fun g h _ tm st k => v_bin t op (g tm) (h tm) (optK (b_bin t op (g tm) (h tm) st) k) st k)
  (fun op x => w1 (rdR x) fun g _ tm st k => v_un op (g tm) (optK (b_un op (g tm) st) k) st k)
  (fun k x => w1 (rdR x) fun g0 _ tm st q => optK (b_toInt k (g0 tm) st) q)
  (fun x => w1 (rdR x) fun g0 _ tm st q => optK (b_toStr (g0 tm) st) q)
  (fun x => w1 (rdR x) fun g0 _ tm st q => optK (b_runeStr (g0 tm) st) q)
  (fun elem x => w1 (rdR x) fun g0 _ tm st q => optK (b_toBytes elem (g0 tm) st) q)
  (fun x => w1 (rdR x) fun g0 _ tm st q => optK (b_strId (g0 tm) st) q)
  (fun x => w1 (rdR x) fun g0 _ tm st q => optK (b_ptrUs (g0 tm) st) q)
  (fun oks x => w1 (rdR x) fun g0 _ tm st q => optK (b_usPtr oks (g0 tm) st) q)
  (fun t x => w1 (rdR x) fun g0 _ tm st q => optK (b_mkIface t (g0 tm) st) q)
  (fun f a b => w2 (rdL a) (rdL b) fun g0 g1 _ tm st q => optK (b_mkFunc f (g0 tm) (g1 tm) st) q)
  (.mk fun _ _ st q => optK (b_mkMap st) q)
  (fun elem es bytes zero len cap => w2 (rdR len) (rdR cap) fun g0 g1 _ tm st q => optK (b_mkSlice elem es bytes zero (g0 tm) (g1 tm) st) q)
  (fun x lo hi => w3 (rdR x) (rdO lo) (rdO hi) fun f g h _ tm st k => v_cutStr (f tm) (g tm) (h tm) st k)
  (fun es x lo hi mx => w4 (rdR x) (rdO lo) (rdO hi) (rdO mx) fun g0 g1 g2 g3 _ tm st q => optK (b_cutSl es (g0 tm) (g1 tm) (g2 tm) (g3 tm) st) q)
  (fun n es x lo hi => w3 (rdR x) (rdO lo) (rdO hi) fun g0 g1 g2 _ tm st q => optK (b_cutArr n es (g0 tm) (g1 tm) (g2 tm) st) q)
  (fun o x => w1 (rdR x) fun g _ tm st k => v_fieldAddr o (g tm) st k)
  (fun agg off size x => w1 (rdR x) fun g0 _ tm st q => optK (b_field agg off size (g0 tm) st) q)
  (fun len es x i => w2 (rdR x) (rdR i) fun g0 g1 _ tm st q => optK (b_idxArr len es (g0 tm) (g1 tm) st) q)
  (fun es x i => w2 (rdR x) (rdR i) fun g h _ tm st k => v_idxSl es (g tm) (h tm) st k)
  (fun x i => w2 (rdR x) (rdR i) fun g h _ tm st k => v_idxStr (g tm) (h tm) st k)
  (fun agg len es x i => w2 (rdR x) (rdR i) fun g0 g1 _ tm st q => optK (b_idxAgg agg len es (g0 tm) (g1 tm) st) q)
  (fun kk zero ok m k => w2 (rdR m) (rdR k) fun g0 g1 _ tm st q => optK (b_lookup kk zero ok (g0 tm) (g1 tm) st) q)
  (fun kk m k v => w3 (rdR m) (rdR k) (rdR v) fun g0 g1 g2 _ tm st q => optK (b_mapUpd kk (g0 tm) (g1 tm) (g2 tm) st) q)
  (fun kk zero m k => w2 (rdR m) (rdR k) fun g0 g1 _ tm st q => optK (b_mapEnt kk zero (g0 tm) (g1 tm) st) q)
  (fun m s v => w3 (rdR m) (rdR s) (rdR v) fun g0 g1 g2 _ tm st q => optK (b_entSt (g0 tm) (g1 tm) (g2 tm) st) q)
  (fun x => w1 (rdR x) fun g0 _ tm st q => optK (b_rangeMap (g0 tm) st) q)
  (fun x => w1 (rdR x) fun g0 _ tm st q => optK (b_rangeStr (g0 tm) st) q)
  (fun it => w1 (rdR it) fun g0 _ tm st q => optK (b_nextMap (g0 tm) st) q)
  (fun it => w1 (rdR it) fun g0 _ tm st q => optK (b_nextStr (g0 tm) st) q)
  (fun it => w1 (rdR it) fun g0 _ tm st q => optK (b_entry (g0 tm) st) q)
  (fun i x => w1 (rdR x) fun g0 _ tm st q => optK (b_extract i (g0 tm) st) q)
  (fun t x => w1 (rdR x) fun g _ tm st k => v_len t (g tm) (optK (b_len t (g tm) st) k) st k)
  (fun n => .mk fun _ _ st q => optK (b_lenC n st) q)
  (fun elem es bytes zero s x => w2 (rdR s) (rdR x) fun g0 g1 _ tm st q => optK (b_app elem es bytes zero (g0 tm) (g1 tm) st) q)
  (fun es d s => w2 (rdR d) (rdR s) fun g0 g1 _ tm st q => optK (b_copy es (g0 tm) (g1 tm) st) q)
  (fun x y => w2 (rdR x) (rdR y) fun g0 g1 _ tm st q => optK (b_minI (g0 tm) (g1 tm) st) q)
  (fun x y => w2 (rdR x) (rdR y) fun g0 g1 _ tm st q => optK (b_maxI (g0 tm) (g1 tm) st) q)
  (fun es zero x => w1 (rdR x) fun g0 _ tm st q => optK (b_clearSl es zero (g0 tm) st) q)
  (fun kk m k => w2 (rdR m) (rdR k) fun g0 g1 _ tm st q => optK (b_delete kk (g0 tm) (g1 tm) st) q)
  (fun x => w1 (rdR x) fun g0 _ tm st q => optK (b_usData (g0 tm) st) q)
  (fun elem x n => w2 (rdR x) (rdR n) fun g0 g1 _ tm st q => optK (b_usStr elem (g0 tm) (g1 tm) st) q)
  (.mk fun _ _ st q => optK (b_recov st) q)
  (fun f as => w2 (rdR f) (rdL as) fun g gs ck tm st k => ck (g tm) (gs tm) st k)
  (fun f args => w2 (rdR f) (rdL args) fun g0 g1 _ tm st q => optK (b_defer (g0 tm) (g1 tm) st) q)
  (.mk fun _ _ st q => optK (b_bad st) q)
abbrev SK := CK → Tr AV → St → KT → R
def cMv (op : AOp) (p : Wr (AV → Tr AV → Tr AV)) (rest : Wr SK) (other : Wr SK) : Wr SK := @AOp.rec (fun _ => Wr SK) (fun x => w3 (rdR x) p rest fun g p r ck tm st k => r ck (p (g tm) tm) st k) (fun _ _ _ => other) (fun _ _ => other) (fun _ _ => other) (fun _ _ => other) (fun _ _ _ _ _ => other) (fun _ => other) (fun _ _ => other) (fun _ _ _ => other) (fun _ => other) (fun _ _ _ _ => other) (fun _ _ => other) (fun _ _ => other) (fun _ => other) (fun _ => other) (fun _ _ => other) (fun _ => other) (fun _ => other) (fun _ _ => other) (fun _ _ => other) (fun _ _ _ => other) other (fun _ _ _ _ _ _ => other) (fun _ _ _ => other) (fun _ _ _ _ _ => other) (fun _ _ _ _ _ => other) (fun _ _ => other) (fun _ _ _ _ => other) (fun _ _ _ _ => other) (fun _ _ _ => other) (fun _ _ => other) (fun _ _ _ _ _ => other) (fun _ _ _ _ _ => other) (fun _ _ _ _ => other) (fun _ _ _ _ => other) (fun _ _ _ => other) (fun _ => other) (fun _ => other) (fun _ => other) (fun _ => other) (fun _ => other) (fun _ _ => other) (fun _ _ => other) (fun _ => other) (fun _ _ _ _ _ _ => other) (fun _ _ _ => other) (fun _ _ => other) (fun _ _ => other) (fun _ _ _ => other) (fun _ _ _ => other) (fun _ => other) (fun _ _ _ => other) other (fun _ _ => other) (fun _ _ => other) other
  op
def cStep (rest : Wr SK) : AOper → Wr SK := @AOper.rec (fun _ => Wr SK) (fun op dst guard => @Option.rec (Nat × Bool) (fun _ => Wr SK) (cMv op (wrO dst) rest (w3 (cOp op) (wrO dst) rest fun f p r ck tm st k => f ck tm st fun v st => r ck (p v tm) st k))
  (@Prod.rec Nat Bool (fun _ => Wr SK) fun g w => @Bool.rec (fun _ => Wr SK)
    (w4 (cOp op) (wrO dst) (rdT g) rest fun f p gg r ck tm st k => asBool (gg tm) (f ck tm st fun v st => r ck (p v tm) st k) (r ck (p undefA tm) st k) (r ck (p undefA tm) st k))
    (w4 (cOp op) (wrO dst) (rdT g) rest fun f p gg r ck tm st k => asBool (gg tm) (r ck (p undefA tm) st k) (f ck tm st fun v st => r ck (p v tm) st k) (r ck (p undefA tm) st k)) w) guard)
def endSK : Wr SK := .mk fun _ tm st k => k tm st
def cOps : List AOper → Wr SK := @List.rec AOper (fun _ => Wr SK) endSK (fun o _ ih => cStep ih o)
def isNil {α : Type} : List α → Bool := @List.rec α (fun _ => Bool) true (fun _ _ _ => false)
def allNil : List (List Nat) → Bool := @List.rec (List Nat) (fun _ => Bool) true (fun u _ ih => @Bool.rec (fun _ => Bool) false ih (isNil u))
def isChain : Cls → Bool := @Cls.rec (fun _ => Bool) false false true
def cDraw0 : List AOper → List (List Nat) → Wr SK := @List.rec AOper (fun _ => List (List Nat) → Wr SK) (fun _ => endSK)
  (fun o _ ih us => @List.rec (List Nat) (fun _ => Wr SK) (.mk fun _ _ _ _ => none) (fun _ us _ => @Bool.rec (fun _ => Wr SK) (cStep (ih us) o)
    (w2 (cStep endSK o) (ih us) fun f r ck tm st k => stK st fun h n t l => f ck tm (St.mk h n n []) fun tm' st' => stK st' fun h' n' _ l' => r ck tm' (St.mk h' n' t (filtLt t l' ++ l)) k) (isChain (clsOf o.op))) us)
def blkF : AV → List Nat := @AV.rec (fun _ => List Nat) (fun _ => PUnit) (fun _ => []) (fun _ _ => []) (fun _ => []) (fun b _ => [b]) [] (fun b _ _ _ _ => [b]) [] (fun b => [b]) [] (fun _ _ _ _ _ => []) [] (fun _ => []) (fun _ _ _ => []) [] (fun _ _ => []) (fun _ _ => []) PUnit.unit (fun _ _ _ _ => PUnit.unit)
def readsC (op : AOp) : Wr (Tr AV → List Nat) := @AOp.rec (fun _ => Wr (Tr AV → List Nat)) (fun x0 => .mk (readsOf (.mv x0))) (fun x0 x1 x2 => .mk (readsOf (.pick x0 x1 x2))) (fun x0 x1 => .mk (readsOf (.alloc x0 x1))) (fun x0 x1 => .mk (readsOf (.box x0 x1))) (fun x0 x1 => .mk (readsOf (.build x0 x1))) (fun x0 x1 x2 x3 x4 => .mk (readsOf (.buildSlice x0 x1 x2 x3 x4))) (fun x0 => w1 (rdR x0) fun g tm => blkF (g tm)) (fun _ x1 => w1 (rdR x1) fun g tm => blkF (g tm)) (fun x0 x1 x2 => .mk (readsOf (.store x0 x1 x2))) (fun x0 => .mk (readsOf (.nilck x0))) (fun x0 x1 x2 x3 => .mk (readsOf (.bin x0 x1 x2 x3))) (fun x0 x1 => .mk (readsOf (.un x0 x1))) (fun x0 x1 => .mk (readsOf (.toInt x0 x1))) (fun x0 => .mk (readsOf (.toStr x0))) (fun x0 => .mk (readsOf (.runeStr x0))) (fun x0 x1 => .mk (readsOf (.toBytes x0 x1))) (fun x0 => .mk (readsOf (.strId x0))) (fun x0 => .mk (readsOf (.ptrUs x0))) (fun x0 x1 => .mk (readsOf (.usPtr x0 x1))) (fun x0 x1 => .mk (readsOf (.mkIface x0 x1))) (fun x0 x1 x2 => .mk (readsOf (.mkFunc x0 x1 x2))) (.mk (readsOf .mkMap)) (fun x0 x1 x2 x3 x4 x5 => .mk (readsOf (.mkSlice x0 x1 x2 x3 x4 x5))) (fun x0 x1 x2 => .mk (readsOf (.cutStr x0 x1 x2))) (fun x0 x1 x2 x3 x4 => .mk (readsOf (.cutSl x0 x1 x2 x3 x4))) (fun x0 x1 x2 x3 x4 => .mk (readsOf (.cutArr x0 x1 x2 x3 x4))) (fun x0 x1 => .mk (readsOf (.fieldAddr x0 x1))) (fun x0 x1 x2 x3 => .mk (readsOf (.field x0 x1 x2 x3))) (fun x0 x1 x2 x3 => .mk (readsOf (.idxArr x0 x1 x2 x3))) (fun x0 x1 x2 => .mk (readsOf (.idxSl x0 x1 x2))) (fun x0 x1 => .mk (readsOf (.idxStr x0 x1))) (fun x0 x1 x2 x3 x4 => .mk (readsOf (.idxAgg x0 x1 x2 x3 x4))) (fun x0 x1 x2 x3 x4 => .mk (readsOf (.lookup x0 x1 x2 x3 x4))) (fun x0 x1 x2 x3 => .mk (readsOf (.mapUpd x0 x1 x2 x3))) (fun x0 x1 x2 x3 => .mk (readsOf (.mapEnt x0 x1 x2 x3))) (fun x0 x1 x2 => .mk (readsOf (.entSt x0 x1 x2))) (fun x0 => .mk (readsOf (.rangeMap x0))) (fun x0 => .mk (readsOf (.rangeStr x0))) (fun x0 => .mk (readsOf (.nextMap x0))) (fun x0 => .mk (readsOf (.nextStr x0))) (fun x0 => .mk (readsOf (.entry x0))) (fun x0 x1 => .mk (readsOf (.extract x0 x1))) (fun x0 x1 => .mk (readsOf (.len x0 x1))) (fun x0 => .mk (readsOf (.lenC x0))) (fun x0 x1 x2 x3 x4 x5 => .mk (readsOf (.app x0 x1 x2 x3 x4 x5))) (fun x0 x1 x2 => .mk (readsOf (.copy x0 x1 x2))) (fun x0 x1 => .mk (readsOf (.minI x0 x1))) (fun x0 x1 => .mk (readsOf (.maxI x0 x1))) (fun x0 x1 x2 => .mk (readsOf (.clearSl x0 x1 x2))) (fun x0 x1 x2 => .mk (readsOf (.delete x0 x1 x2))) (fun x0 => .mk (readsOf (.usData x0))) (fun x0 x1 x2 => .mk (readsOf (.usStr x0 x1 x2))) (.mk (readsOf .recov)) (fun x0 x1 => .mk (readsOf (.call x0 x1))) (fun x0 x1 => .mk (readsOf (.defer x0 x1))) (.mk (readsOf .bad))
  op
def effG (w : Bool) (a b : Eff) : AV → Eff := @AV.rec (fun _ => Eff) (fun _ => PUnit) (fun c => @Bool.rec (fun _ => Eff) (@Bool.rec (fun _ => Eff) a b w) (@Bool.rec (fun _ => Eff) b a w) c) (fun _ _ => b) (fun _ => b) (fun _ _ => b) b (fun _ _ _ _ _ => b) b (fun _ => b) b (fun _ _ _ _ _ => b) b (fun _ => b) (fun _ _ _ => b) b (fun _ _ => b) (fun _ _ => b) PUnit.unit (fun _ _ _ _ => PUnit.unit)
def effC : AOper → Wr (Tr AV → Nat → Nat → List Nat → Eff) := @AOper.rec (fun _ => Wr (Tr AV → Nat → Nat → List Nat → Eff)) (fun op _ guard => @Option.rec (Nat × Bool) (fun _ => Wr (Tr AV → Nat → Nat → List Nat → Eff)) (w1 (readsC op) fun r tm lo hi log => ⟨clsOf op, r tm, log, lo, hi⟩)
  (@Prod.rec Nat Bool (fun _ => Wr (Tr AV → Nat → Nat → List Nat → Eff)) fun g w => w2 (readsC op) (rdT g) fun r gg tm lo hi log => effG w ⟨clsOf op, r tm, log, lo, hi⟩ ⟨.pure, [], [], lo, hi⟩ (gg tm)) guard)
def memF (n : Nat) : List Nat → Bool := @List.rec Nat (fun _ => Bool) false (fun m _ ih => @Bool.rec (fun _ => Bool) ih true (Nat.beq n m))
def meetsF (r : List Nat) : List Nat → Bool := @List.rec Nat (fun _ => Bool) false (fun x _ ih => @Bool.rec (fun _ => Bool) ih true (memF x r))
def anyInF (lo hi : Nat) : List Nat → Bool := @List.rec Nat (fun _ => Bool) false (fun x _ ih => @Bool.rec (fun _ => Bool) ih (@Bool.rec (fun _ => Bool) ih true (Nat.blt x hi)) (Nat.ble lo x))
def clashF : Eff → Eff → Bool := @Eff.rec (fun _ => Eff → Bool) (fun ca ra wa _ _ => @Eff.rec (fun _ => Bool) (fun cb rb wb lb hb => @Cls.rec (fun _ => Bool) false (@Cls.rec (fun _ => Bool) false false (meetsF ra wb) cb) (@Cls.rec (fun _ => Bool) (anyInF lb hb wa) (meetsF rb wa) true cb) ca))
def clashesF (e : Eff) (u : List Nat) : List (Nat × Eff) → Bool := @List.rec (Nat × Eff) (fun _ => Bool) false (fun p _ ih => @Prod.rec Nat Eff (fun _ => Bool) (fun i f => @Bool.rec (fun _ => Bool) ih (@Bool.rec (fun _ => Bool) ih true (clashF e f)) (memF i u)) p)
abbrev DK := CK → Nat → List (Nat × Eff) → Tr AV → St → KT → R
def cDraw : List AOper → List (List Nat) → Wr DK := @List.rec AOper (fun _ => List (List Nat) → Wr DK) (fun _ => .mk fun _ _ _ tm st k => k tm st)
  (fun o _ ih us => @List.rec (List Nat) (fun _ => Wr DK) (.mk fun _ _ _ _ _ _ => none) (fun u us _ => w3 (cStep endSK o) (ih us) (effC o) fun f r ef ck i es tm st k => stK st fun h n t l => f ck tm (St.mk h n n []) fun tm' st' => stK st' fun h' n' _ l' =>
    @Bool.rec (fun _ => R) (r ck (Nat.succ i) ((i, ef tm n n' l') :: es) tm' (St.mk h' n' t (filtLt t l' ++ l)) k) none (@Bool.rec (fun _ => Bool) (clashesF (ef tm n n' l') u es) false (isNil u))) us)
def cDrawA (ops : List AOper) (un : List (List Nat)) : Wr SK := @Bool.rec (fun _ => Wr SK) (w1 (cDraw ops un) fun f ck tm st k => f ck 0 [] tm st k) (cDraw0 ops un) (allNil un)
def outK : AOut → R → (Nat → R) → R → R := @AOut.rec (fun _ => R → (Nat → R) → R → R) (fun a _ _ => a) (fun i _ f _ => f i) (fun _ _ c => c)
abbrev CoK := CK → Nat → Tr AV → List Nat → St → KO → R
def loopK (f : CoK) (ck : CK) (n : Nat) : Nat → Tr AV → List Nat → St → KO → R := @Nat.rec (fun _ => Tr AV → List Nat → St → KO → R) (fun _ _ _ _ => none) (fun _ go tm df st k => f ck n tm df st fun o tm df st => outK o (go tm df st k) (fun i => k (.exit i) tm df st) (k .ret tm df st))
def goOnK (k : KO) (tm : Tr AV) (df : List Nat) (st : St) : Option AOut → R := @Option.rec AOut (fun _ => R) (k .normal tm df st) (fun o => k o tm df st)
def rangeEnd (l d : Nat) (tm : Tr AV) (df : List Nat) (k : KO) (st3 : St) : R := match st3.heap.get l with
  | some (.loop s pend N' tm' ps' as' bd' df') => match s with
    | .busy => none
    | _ => goOnK k tm (d :: df) (st3.putObj l (.loop .exhausted pend N' tm' ps' as' bd' df')) pend
  | _ => none
def rangeK (N : Nat) (f : AV) (ps : List Nat) (as bd : ACode) (ck : CK) (tm : Tr AV) (df : List Nat) (st : St) (k : KO) : R :=
  asFunc f (fun fn first cap => ck (.func fn first cap) [.yld (st.new (.dfr false)).next] ((st.new (.dfr false)).new (.loop .ready none N tm ps as bd st.next)) fun _ st3 => rangeEnd (st.new (.dfr false)).next st.next tm df k st3) (fun _ => none)
def cCode : ACode → Wr CoK := @ACode.rec (fun _ => Wr CoK)
  (.mk fun _ _ tm df st k => k .normal tm df st)
  (fun ops => w1 (cOps ops) fun f ck _ tm df st k => f ck tm st fun tm st => k .normal tm df st)
  (fun ops un => w1 (cDrawA ops un) fun f ck _ tm df st k => f ck tm st fun tm st => k .normal tm df st)
  (fun _ _ iha ihb => w2 iha ihb fun f g ck n tm df st k => f ck n tm df st fun o tm df st => outK o (g ck n tm df st k) (fun i => k (.exit i) tm df st) (k .ret tm df st))
  (fun x _ _ iha ihb => w3 (rdR x) iha ihb fun c f g ck n tm df st k => asBool (c tm) (g ck n tm df st k) (f ck n tm df st k) none)
  (fun id _ ih => w1 ih fun f ck n tm df st k => f ck n tm df st fun o tm df st => outK o (k .normal tm df st) (fun i => @Bool.rec (fun _ => R) (k (.exit i) tm df st) (k .normal tm df st) (Nat.beq i id)) (k .ret tm df st))
  (fun _ ih => w1 ih fun f ck n tm df st k => loopK f ck n n tm df st k)
  (fun _ ih => ih)
  (fun i => .mk fun _ _ tm df st k => k (.exit i) tm df st)
  (.mk fun _ _ tm df st k => k .ret tm df st)
  (fun N f ps as bd _ _ => w1 (rdR f) fun g ck _ tm df st k => rangeK N (g tm) ps as bd ck tm df st k)
  (.mk fun _ _ _ _ _ _ => none)
def initF : List AV → Nat → Tr AV → Tr AV := @List.rec AV (fun _ => Nat → Tr AV → Tr AV) (fun _ t => t) (fun v _ ih i t => ih (Nat.succ i) (setF v t i))
def tupF : List AV → AV := @List.rec AV (fun _ => AV) (.tuple []) (fun v l _ => @List.rec AV (fun _ => AV) v (fun _ _ _ => .tuple (v :: l)) l)
def cRes : List ARes → Wr (Option (Tr AV → List AV)) := @List.rec ARes (fun _ => Wr (Option (Tr AV → List AV))) (.mk (some fun _ => [])) (fun x _ ih => @ARes.rec (fun _ => Wr (Option (Tr AV → List AV))) (fun t => w2 (rdT t) ih fun g r => @Option.rec (Tr AV → List AV) (fun _ => Option (Tr AV → List AV)) none (fun r => some fun tm => g tm :: r tm) r) (fun _ _ => .mk none) x)
def leaveK (res : List ARes) (tm : Tr AV) (df : List Nat) (st : St) (k : KV) : R := @List.rec Nat (fun _ => R) (@Wr.rec _ (fun _ => R) (@Option.rec (Tr AV → List AV) (fun _ => R) (optK (leaveA res tm [] st) k) (fun r => k (tupF (r tm)) st)) (cRes res)) (fun b l _ => optK (leaveA res tm (b :: l) st) k) df
def appF : List AV → List AV → List AV := @List.rec AV (fun _ => List AV → List AV) (fun m => m) (fun v _ ih m => v :: ih m)
def appNil (l : List AV) : List AV → List AV := @List.rec AV (fun _ => List AV) l (fun v m _ => appF l (v :: m))
def enterK : AFn → CK → Nat → List AV → St → KV → R := @AFn.rec (fun _ => CK → Nat → List AV → St → KV → R) (fun _ body res ck n as st k => @Wr.rec _ (fun _ => R) (fun f => f ck n (initF as 0 .e) [] st fun o tm df st => outK o (leaveK res tm df st k) (fun _ => none) (leaveK res tm df st k)) (cCode body))
def roundEnd (l : Nat) (k : KV) (out : AOut) (st2 : St) : R := match st2.heap.get l with
  | some (.loop .busy _ n2 tm2 ps2 as2 bd2 df2) => match out with
    | .normal => k (.bool true) (st2.putObj l (.loop .ready none n2 tm2 ps2 as2 bd2 df2))
    | o => k (.bool false) (st2.putObj l (.loop .done (some o) n2 tm2 ps2 as2 bd2 df2))
  | _ => none
def roundMid (ck : CK) (n l : Nat) (bd : ACode) (tm1 : Tr AV) (df1 : List Nat) (st1 : St) (k : KV) : R := match st1.heap.get l with
  | some (.loop .ready pend n1 tm1' ps1 as1 bd1 df1') => (cCode bd).out ck n tm1 df1 (st1.putObj l (.loop .busy pend n1 tm1' ps1 as1 bd1 df1')) fun out _ _ st2 => roundEnd l k out st2
  | _ => none
def roundK (ck : CK) (n l : Nat) (args : List AV) (st : St) (k : KV) : R := match st.heap.get l with
  | some (.loop .ready _ m tm ps as bd _) => match setParams m ps args tm with
    | some tm' => (cCode as).out ck n tm' [] st fun o tm1 df1 st1 => outK o (roundMid ck n l bd tm1 df1 st1 k) (fun _ => none) none
    | none => none
  | _ => none
def isYld : List AV → Bool := @List.rec AV (fun _ => Bool) false (fun v _ _ => @AV.rec (fun _ => Bool) (fun _ => PUnit) (fun _ => false) (fun _ _ => false) (fun _ => false) (fun _ _ => false) false (fun _ _ _ _ _ => false) false (fun _ => false) false (fun _ _ _ _ _ => false) false (fun _ => true) (fun _ _ _ => false) false (fun _ _ => false) (fun _ _ => false) PUnit.unit (fun _ _ _ _ => PUnit.unit) v)
inductive Ent where
  | code (f : AFn)
  | orc (f : List AV → St → Option (AV × St))
def callK (tb : Tr Ent) : Nat → CK := @Nat.rec (fun _ => CK) (fun _ _ _ _ => none) (fun n ih f args st k => asFunc f (fun fn first cap => @Fn.casesOn (fun _ => R) fn
   (fun g => @Option.rec Ent (fun _ => R) none (@Ent.rec (fun _ => R) (fun fn => enterK fn ih n (appF first (appNil args cap)) st k) (fun o => @Bool.rec (fun _ => R) (optK (o (appF first (appNil args cap)) st) k) none (isYld args))) (getF tb g)) (fun _ => none) (fun _ _ => none) (fun _ _ _ _ => none) (fun _ => none)) (fun l => roundK ih n l args st k))
end
end Go.RI
