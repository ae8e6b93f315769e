/- The slim machine: the rules by which simp walks. -/
import Derived.Test.YtlocjmbfcdfjfaaSlimQ
namespace Go.Proofs.Ytlocjmbfcdfjfaa.Slim
open Go
set_option linter.unusedVariables false
set_option linter.unusedSimpArgs false

section
variable {C : FuncId → List AV → Mem → Option (AV × Mem)} {tm loc : List AV} {m : Mem} {g : X → AV} {H : List Blk} {e : Option Nat}

theorem aops_nil : aops C tm [] loc m = some (loc, m) := Eq.trans rfl rfl

def opThen {β : Type} (r : Option (AV × Mem)) (f : AV → Mem → Option β) : Option β :=
  match r with
  | some (v, m) => f v m
  | none => none
theorem opThen_some {β : Type} (v : AV) (m : Mem) (f : AV → Mem → Option β) : opThen (some (v, m)) f = f v m := Eq.trans rfl rfl
theorem opThen_none {β : Type} (f : AV → Mem → Option β) : opThen none f = none := Eq.trans rfl rfl
theorem opThen_ite {β : Type} (c : Prop) [Decidable c] (a b : Option (AV × Mem)) (f : AV → Mem → Option β) : opThen (if c then a else b) f = if c then opThen a f else opThen b f := by split <;> rfl
@[congr] theorem opThen_congr {β : Type} {r r' : Option (AV × Mem)} {f : AV → Mem → Option β} (h : r = r') : opThen r f = opThen r' f := by rw [h]

/-- an operation with a guard -/
def guardP {β : Type} (p : Prop) [Decidable p] (r : Option (AV × Mem)) (m : Mem) (f : AV → Mem → Option β) : Option β := if p then opThen r f else f (.tup []) m
def guardThen {β : Type} (c : Option Bool) (r : Option (AV × Mem)) (m : Mem) (f : AV → Mem → Option β) : Option β :=
  match c with
  | none => none
  | some c => guardP (c = true) r m f
theorem guardThen_some {β : Type} (c : Bool) (r : Option (AV × Mem)) (m : Mem) (f : AV → Mem → Option β) : guardThen (some c) r m f = guardP (c = true) r m f := Eq.trans rfl rfl
theorem guardThen_ite {β : Type} (p : Prop) [Decidable p] (a b : Option Bool) (r : Option (AV × Mem)) (m : Mem) (f : AV → Mem → Option β) :
    guardThen (if p then a else b) r m f = if p then guardThen a r m f else guardThen b r m f := by split <;> rfl
theorem guardP_true {β : Type} (r : Option (AV × Mem)) (m : Mem) (f : AV → Mem → Option β) : guardP True r m f = opThen r f := by simp [guardP]
theorem guardP_false {β : Type} (r : Option (AV × Mem)) (m : Mem) (f : AV → Mem → Option β) : guardP False r m f = f (.tup []) m := by simp [guardP]
theorem guardP_some {β : Type} (p : Prop) [Decidable p] (v : AV) (m : Mem) (f : AV → Mem → Option β) : guardP p (some (v, m)) m f = f (if p then v else .tup []) m := by
  by_cases h : p <;> simp [guardP, h, opThen]
theorem guardP_ite {β : Type} (p : Prop) [Decidable p] (q : Prop) [Decidable q] (v : AV) (m : Mem) (f : AV → Mem → Option β) :
    guardP p (if q then some (v, m) else none) m f = if p → q then f (if p then v else .tup []) m else none := by
  by_cases h : p <;> by_cases h2 : q <;> simp [guardP, opThen, h, h2]
@[congr] theorem guardP_congr {β : Type} {p q : Prop} {s : Decidable p} [Decidable q] {r r' : Option (AV × Mem)} {m : Mem} {f : AV → Mem → Option β} (h : p = q) (h2 : q → r = r') : guardP p r m f = guardP q r' m f := by
  subst h
  unfold guardP
  by_cases hp : p
  · rw [if_pos hp, if_pos hp, h2 hp]
  · rw [if_neg hp, if_neg hp]
@[congr] theorem guardThen_congr {β : Type} {c c' : Option Bool} {r : Option (AV × Mem)} {m : Mem} {f : AV → Mem → Option β} (h : c = c') : guardThen c r m f = guardThen c' r m f := by rw [h]

/-- what a guard says -/
def guardOf (v : AV) (b : Bool) : Option Bool :=
  match v with
  | .bool c => some (c == b)
  | .tup [] => some false
  | _ => none
theorem guardOf_true (c : Bool) : guardOf (.bool c) true = some c := by cases c <;> rfl
theorem guardOf_false (c : Bool) : guardOf (.bool c) false = some (!c) := by cases c <;> rfl
theorem guardOf_tup (b : Bool) : guardOf (.tup []) b = some false := Eq.trans rfl rfl
theorem guardOf_ite (c : Prop) [Decidable c] (x y : AV) (b : Bool) : guardOf (if c then x else y) b = if c then guardOf x b else guardOf y b := by split <;> rfl

theorem aops_cons (op : AO) (rest : List AOper) : aops C tm (⟨op, none⟩ :: rest) loc m = opThen (aop C (get tm loc) m op) fun v m' => aops C tm rest (loc ++ [v]) m' := by
  rw [aops]
  simp only [wanted]
  cases aop C (get tm loc) m op <;> rfl

theorem aops_guard (op : AO) (x : X) (b : Bool) (rest : List AOper) :
    aops C tm (⟨op, some (x, b)⟩ :: rest) loc m = guardThen (guardOf (get tm loc x) b) (aop C (get tm loc) m op) m fun v m' => aops C tm rest (loc ++ [v]) m' := by
  rw [aops]
  have h : wanted (get tm loc) (some (x, b)) = guardOf (get tm loc x) b := rfl
  rw [h]
  cases guardOf (get tm loc x) b with
  | none => rfl
  | some c => cases c with
    | false => rfl
    | true => simp only [guardThen, guardP, if_true]; cases aop C (get tm loc) m op <;> rfl

theorem dops_nil : dops C tm [] loc m = some (loc, m) := Eq.trans rfl rfl

theorem dops_cons (op : AO) (rest : List DE) : dops C tm (⟨op, none, []⟩ :: rest) loc m = opThen (aop C (get tm loc) m op) fun v m' => dops C tm rest (loc ++ [v]) m' := by
  rw [dops]
  simp only [wanted]
  cases aop C (get tm loc) m op <;> simp [opThen, toldAnew]

theorem dops_again (op : AO) (q : Nat × AOper) (qs : List (Nat × AOper)) (rest : List DE) : dops C tm (⟨op, none, q :: qs⟩ :: rest) loc m =
    opThen (aop C (get tm loc) m op) fun v m' => if toldAnew (get tm (loc ++ [v])) loc m'.H (q :: qs) = true then dops C tm rest (loc ++ [v]) m' else none := by
  rw [dops]
  simp only [wanted]
  cases aop C (get tm loc) m op <;> simp [opThen]

theorem dops_guard (op : AO) (x : X) (b : Bool) (rest : List DE) :
    dops C tm (⟨op, some (x, b), []⟩ :: rest) loc m = guardThen (guardOf (get tm loc x) b) (aop C (get tm loc) m op) m fun v m' => dops C tm rest (loc ++ [v]) m' := by
  rw [dops]
  have h : wanted (get tm loc) (some (x, b)) = guardOf (get tm loc x) b := rfl
  rw [h]
  cases guardOf (get tm loc x) b with
  | none => rfl
  | some c => cases c with
    | false => simp [guardThen, guardP, toldAnew]
    | true => simp only [guardThen, guardP, if_true]; cases aop C (get tm loc) m op <;> simp [opThen, toldAnew]

theorem dops_guard_again (op : AO) (x : X) (b : Bool) (q : Nat × AOper) (qs : List (Nat × AOper)) (rest : List DE) :
    dops C tm (⟨op, some (x, b), q :: qs⟩ :: rest) loc m = guardThen (guardOf (get tm loc x) b) (aop C (get tm loc) m op) m fun v m' =>
      if toldAnew (get tm (loc ++ [v])) loc m'.H (q :: qs) = true then dops C tm rest (loc ++ [v]) m' else none := by
  rw [dops]
  have h : wanted (get tm loc) (some (x, b)) = guardOf (get tm loc x) b := rfl
  rw [h]
  cases guardOf (get tm loc x) b with
  | none => rfl
  | some c => cases c with
    | false => rfl
    | true => simp only [guardThen, guardP, if_true]; cases aop C (get tm loc) m op <;> rfl

theorem toldAnew_nil (L : List Blk) : toldAnew g loc L [] = true := Eq.trans rfl rfl
theorem toldAnew_cons (L : List Blk) (j : Nat) (op : AO) (qs : List (Nat × AOper)) : (toldAnew g loc L ((j, ⟨op, none⟩) :: qs) = true) ↔ (memop g L op = some ((loc[j]?).getD .undef) ∧ toldAnew g loc L qs = true) := by
  simp [toldAnew, wanted]
theorem toldAnew_guard (L : List Blk) (j : Nat) (op : AO) (x : X) (b : Bool) (qs : List (Nat × AOper)) : (toldAnew g loc L ((j, ⟨op, some (x, b)⟩) :: qs) = true) ↔ ((guardOf (g x) b = some false ∨ memop g L op = some ((loc[j]?).getD .undef)) ∧ toldAnew g loc L qs = true) := by
  simp only [toldAnew, Bool.and_eq_true, Bool.or_eq_true, decide_eq_true_eq]
  rfl
theorem memop_load (L : List Blk) (a : Bool) (sz : Nat) (x : X) : memop g L (.load a sz x) = loadAt L a sz (g x) := Eq.trans rfl rfl

theorem get_t (s : Nat) : get tm loc (.t s) = (tm[s]?).getD .undef := Eq.trans rfl rfl
theorem get_l (s : Nat) : get tm loc (.l s) = (loc[s]?).getD .undef := Eq.trans rfl rfl
theorem get_c (v : AV) : get tm loc (.c v) = v := Eq.trans rfl rfl

/-- a value, memory being as it was -/
def valOf (m : Mem) (r : Option AV) : Option (AV × Mem) :=
  match r with
  | some v => some (v, m)
  | none => none
theorem valOf_some (v : AV) : valOf m (some v) = some (v, m) := Eq.trans rfl rfl
theorem valOf_none : valOf m none = none := Eq.trans rfl rfl
theorem valOf_ite (c : Prop) [Decidable c] (a b : Option AV) : valOf m (if c then a else b) = if c then valOf m a else valOf m b := by split <;> rfl

theorem aop_of_light {op : AO} (h : op.kind = 0) : aop C g m op = valOf m (light g op) := by
  unfold aop
  cases e : light g op with
  | some v => rfl
  | none => simp only []; rw [memop_none (by omega), making_none (by omega), heavy_none (by omega)]; rfl

theorem aop_of_memop {op : AO} (h : op.kind = 1) : aop C g m op = valOf m (memop g m.H op) := by
  unfold aop
  rw [light_none (by omega)]
  simp only []
  cases e : memop g m.H op with
  | some v => rfl
  | none => simp only []; rw [making_none (by omega), heavy_none (by omega)]; rfl

theorem aop_of_heavy {op : AO} (h : op.kind = 3) : aop C g m op = heavy C g m op := by
  unfold aop
  rw [light_none (by omega), memop_none (by omega), making_none (by omega)]

theorem aop_of_making {op : AO} (h : op.kind = 2) : aop C g m op = match making g op with | some (cs, v) => some (v m.H.length, newBlk m cs) | none => none := by
  unfold aop
  rw [light_none (by omega), memop_none (by omega)]
  simp only []
  cases making g op with
  | some p => rfl
  | none => simp only []; exact heavy_none (by omega)

theorem aop_mv (x : X) : aop C g m (.mv x) = some (g x, m) := Eq.trans rfl rfl
theorem aop_bin (c : Nat) (o : BinOp) (x y : X) : aop C g m (.bin c o x y) = valOf m (binop c o (g x) (g y)) := aop_of_light rfl

/-- a choice -/
def pickV (c a b : AV) : Option AV :=
  match c with
  | .bool true => some a
  | .bool false => some b
  | _ => none
theorem pickV_bool (c : Bool) (a b : AV) : pickV (.bool c) a b = some (if c = true then a else b) := by cases c <;> rfl
theorem aop_pick (c a b : X) : aop C g m (.pick c a b) = valOf m (pickV (g c) (g a) (g b)) := aop_of_light rfl
theorem aop_un (o : UnOp) (x : X) : aop C g m (.un o x) = valOf m (unop o (g x)) := aop_of_light rfl
theorem aop_makeFunc (f : FuncId) (a b : List X) : aop C g m (.makeFunc f a b) = some (.fn f (a.map g) (b.map g), m) := Eq.trans rfl rfl

def convV (k : IntKind) (v : AV) : Option AV :=
  match v with
  | .int _ n => some (.int k (k.wrap n))
  | _ => none
theorem convV_int (k k' : IntKind) (n : Int) : convV k (.int k' n) = some (.int k (k.wrap n)) := Eq.trans rfl rfl
theorem aop_conv (k : IntKind) (x : X) : aop C g m (.conv k x) = valOf m (convV k (g x)) := aop_of_light rfl

def eqCellsV (ks : List Nat) (neg : Bool) (a b : AV) : Option AV :=
  match a, b with
  | .agg xs, .agg ys => (eqList ks xs ys).map fun b => .bool (if neg then !b else b)
  | _, _ => none
theorem eqCellsV_agg (ks : List Nat) (neg : Bool) (xs ys : List AV) : eqCellsV ks neg (.agg xs) (.agg ys) = (eqList ks xs ys).map fun b => .bool (if neg then !b else b) := Eq.trans rfl rfl
theorem aop_eqCells (ks : List Nat) (neg : Bool) (x y : X) : aop C g m (.eqCells ks neg x y) = valOf m (eqCellsV ks neg (g x) (g y)) := aop_of_light rfl

def fieldAddrV (off : Nat) (v : AV) : Option AV :=
  match v with
  | .ptr (some (b, o)) => some (.ptr (some (b, o + off)))
  | _ => none
theorem fieldAddrV_ptr (off b o : Nat) : fieldAddrV off (.ptr (some (b, o))) = some (.ptr (some (b, o + off))) := Eq.trans rfl rfl
theorem aop_fieldAddr (off : Nat) (x : X) : aop C g m (.fieldAddr off x) = valOf m (fieldAddrV off (g x)) := aop_of_light rfl

def fieldV (agg : Bool) (off sz : Nat) (v : AV) : Option AV :=
  match v with
  | .agg cs => part agg cs off sz
  | _ => none
theorem fieldV_agg (agg : Bool) (off sz : Nat) (cs : List AV) : fieldV agg off sz (.agg cs) = part agg cs off sz := Eq.trans rfl rfl
theorem aop_field (agg : Bool) (off sz : Nat) (x : X) : aop C g m (.field agg off sz x) = valOf m (fieldV agg off sz (g x)) := aop_of_light rfl

def indexAddrSV (sz : Nat) (v i : AV) : Option AV :=
  match v, i with
  | .slice (some (b, o)) sz' n _, .int _ i => if 0 ≤ i ∧ i < n ∧ sz' = sz then some (.ptr (some (b, o + i.toNat * sz))) else none
  | _, _ => none
theorem indexAddrSV_slice (sz b o sz' n : Nat) (c : Option Nat) (k : IntKind) (i : Int) : indexAddrSV sz (.slice (some (b, o)) sz' n c) (.int k i) = if 0 ≤ i ∧ i < n ∧ sz' = sz then some (.ptr (some (b, o + i.toNat * sz))) else none := Eq.trans rfl rfl
theorem aop_indexAddrS (sz : Nat) (x i : X) : aop C g m (.indexAddrS sz x i) = valOf m (indexAddrSV sz (g x) (g i)) := aop_of_light rfl

def indexAddrAV (n sz : Nat) (v i : AV) : Option AV :=
  match v, i with
  | .ptr (some (b, o)), .int _ i => if 0 ≤ i ∧ i < n then some (.ptr (some (b, o + i.toNat * sz))) else none
  | _, _ => none
theorem indexAddrAV_ptr (n sz b o : Nat) (k : IntKind) (i : Int) : indexAddrAV n sz (.ptr (some (b, o))) (.int k i) = if 0 ≤ i ∧ i < n then some (.ptr (some (b, o + i.toNat * sz))) else none := Eq.trans rfl rfl
theorem aop_indexAddrA (n sz : Nat) (x i : X) : aop C g m (.indexAddrA n sz x i) = valOf m (indexAddrAV n sz (g x) (g i)) := aop_of_light rfl

def indexAV (agg : Bool) (n sz : Nat) (v i : AV) : Option AV :=
  match v, i with
  | .agg cs, .int _ i => if 0 ≤ i ∧ i < n then part agg cs (i.toNat * sz) sz else none
  | _, _ => none
theorem indexAV_agg (agg : Bool) (n sz : Nat) (cs : List AV) (k : IntKind) (i : Int) : indexAV agg n sz (.agg cs) (.int k i) = if 0 ≤ i ∧ i < n then part agg cs (i.toNat * sz) sz else none := Eq.trans rfl rfl
theorem aop_indexA (agg : Bool) (n sz : Nat) (x i : X) : aop C g m (.indexA agg n sz x i) = valOf m (indexAV agg n sz (g x) (g i)) := aop_of_light rfl

def indexSV (v i : AV) : Option AV :=
  match v, i with
  | .str s, .int _ i => if 0 ≤ i then (s[i.toNat]?).map fun b => .int .u8 b.toNat else none
  | _, _ => none
theorem indexSV_str (s : ByteArray) (k : IntKind) (i : Int) : indexSV (.str s) (.int k i) = if 0 ≤ i then (s[i.toNat]?).map fun b => .int .u8 b.toNat else none := Eq.trans rfl rfl
theorem aop_indexS (x i : X) : aop C g m (.indexS x i) = valOf m (indexSV (g x) (g i)) := aop_of_light rfl

def extractV (i : Nat) (v : AV) : Option AV :=
  match v with
  | .tup vs => vs[i]?
  | _ => none
theorem extractV_tup (i : Nat) (vs : List AV) : extractV i (.tup vs) = vs[i]? := Eq.trans rfl rfl
theorem aop_extract (i : Nat) (x : X) : aop C g m (.extract i x) = valOf m (extractV i (g x)) := aop_of_light rfl

def lenV (v : AV) : Option AV :=
  match v with
  | .slice _ _ n _ => some (.int .i64 n)
  | _ => none
theorem lenV_slice (p : Option (Nat × Nat)) (sz n : Nat) (c : Option Nat) : lenV (.slice p sz n c) = some (.int .i64 n) := Eq.trans rfl rfl
theorem aop_len (x : X) : aop C g m (.len x) = valOf m (lenV (g x)) := aop_of_light rfl

def lenStrV (v : AV) : Option AV :=
  match v with
  | .str s => some (.int .i64 s.size)
  | _ => none
theorem lenStrV_str (s : ByteArray) : lenStrV (.str s) = some (.int .i64 s.size) := Eq.trans rfl rfl
theorem aop_lenStr (x : X) : aop C g m (.lenStr x) = valOf m (lenStrV (g x)) := aop_of_light rfl
theorem aop_lenA (n : Nat) : aop C g m (.lenA n) = some (.int .i64 n, m) := Eq.trans rfl rfl

def max2V (a b : AV) : Option AV :=
  match a, b with
  | .int k a, .int k' b => if k = k' then some (.int k (if b > a then b else a)) else none
  | _, _ => none
theorem max2V_int (k : IntKind) (a b : Int) : max2V (.int k a) (.int k b) = some (.int k (if b > a then b else a)) := by simp [max2V]
theorem aop_max2 (x y : X) : aop C g m (.max2 x y) = valOf m (max2V (g x) (g y)) := aop_of_light rfl
def min2V (a b : AV) : Option AV :=
  match a, b with
  | .int k a, .int k' b => if k = k' then some (.int k (if b < a then b else a)) else none
  | _, _ => none
theorem min2V_int (k : IntKind) (a b : Int) : min2V (.int k a) (.int k b) = some (.int k (if b < a then b else a)) := by simp [min2V]
theorem aop_min2 (x y : X) : aop C g m (.min2 x y) = valOf m (min2V (g x) (g y)) := aop_of_light rfl

theorem aop_build (zero : List AV) (parts : List (Nat × Nat × X)) : aop C g m (.build zero parts) = valOf m ((fillParts g zero parts).map .agg) := aop_of_light rfl
theorem aop_load (a : Bool) (sz : Nat) (x : X) : aop C g m (.load a sz x) = valOf m (loadAt m.H a sz (g x)) := aop_of_memop rfl
theorem aop_alloc (zero : List AV) : aop C g ⟨H, e⟩ (.alloc zero) = some (.ptr (some (H.length, 0)), ⟨H ++ [.cells zero true], e⟩) := Eq.trans rfl rfl

def boxV (H : List Blk) (e : Option Nat) (cs : Option (List AV)) : Option (AV × Mem) :=
  match cs with
  | some cs => some (.ptr (some (H.length, 0)), ⟨H ++ [.cells cs true], e⟩)
  | none => none
theorem boxV_some (cs : List AV) : boxV H e (some cs) = some (.ptr (some (H.length, 0)), ⟨H ++ [.cells cs true], e⟩) := Eq.trans rfl rfl
theorem aop_box (x : X) : aop C g ⟨H, e⟩ (.box x) = boxV H e (cellsOf (g x)) := by
  rw [aop_of_making rfl]
  have h : making g (.box x) = (cellsOf (g x)).map fun cs => (cs, fun b => .ptr (some (b, 0))) := rfl
  rw [h]
  cases cellsOf (g x) <;> rfl

def buildSliceV (H : List Blk) (e : Option Nat) (sz len : Nat) (cs : Option (List AV)) : Option (AV × Mem) :=
  match cs with
  | some cs => some (.slice (some (H.length, 0)) sz len (some len), ⟨H ++ [.cells cs true], e⟩)
  | none => none
theorem buildSliceV_some (sz len : Nat) (cs : List AV) : buildSliceV H e sz len (some cs) = some (.slice (some (H.length, 0)) sz len (some len), ⟨H ++ [.cells cs true], e⟩) := Eq.trans rfl rfl
theorem aop_buildSlice (sz len : Nat) (zero : List AV) (parts : List (Nat × Nat × X)) : aop C g ⟨H, e⟩ (.buildSlice sz len zero parts) = buildSliceV H e sz len (fillParts g zero parts) := by
  rw [aop_of_making rfl]
  have h : making g (.buildSlice sz len zero parts) = (fillParts g zero parts).map fun cs => (cs, fun b => .slice (some (b, 0)) sz len (some len)) := rfl
  rw [h]
  cases fillParts g zero parts <;> rfl

/-- a store -/
def storeV (H : List Blk) (e : Option Nat) (sz : Nat) (a x : AV) : Option (AV × Mem) :=
  match a, cellsOf x with
  | .ptr (some (b, o)), some new => match H[b]? with
    | some (.cells cs true) =>
      if new.length = sz ∧ 0 < sz ∧ o + sz ≤ cs.length then
        some (.tup [], ⟨H.set b (.cells (setRange cs o new) true), if (new.all fun v => v.under (b + 1)) then e else minEsc e b⟩)
      else none
    | _ => none
  | _, _ => none
theorem aop_store (sz : Nat) (a x : X) : aop C g ⟨H, e⟩ (.store sz a x) = storeV H e sz (g a) (g x) := by
  rw [aop_of_heavy rfl]; rfl

def callV (C : FuncId → List AV → Mem → Option (AV × Mem)) (f : AV) (args : List AV) (m : Mem) : Option (AV × Mem) :=
  match f with
  | .fn f first captured => C f (first ++ args ++ captured) m
  | _ => none
theorem callV_fn (f : FuncId) (first captured args : List AV) : callV C (.fn f first captured) args m = C f (first ++ args ++ captured) m := Eq.trans rfl rfl
theorem aop_call (f : X) (args : List X) : aop C g m (.call f args) = callV C (g f) (args.map g) m := by
  rw [aop_of_heavy rfl]
  rfl

def makeSliceV (H : List Blk) (e : Option Nat) (sz bytes : Nat) (zero : List AV) (len cap : AV) : Option (AV × Mem) :=
  match len, cap with
  | .int .i64 l, .int .i64 c => if 0 ≤ l ∧ l = c ∧ l * bytes ≤ maxBytes then
      some (.slice (some (H.length, 0)) sz l.toNat (some l.toNat), ⟨H ++ [.cells (zeros l.toNat zero) true], e⟩) else none
  | _, _ => none
theorem makeSliceV_int (sz bytes : Nat) (zero : List AV) (l c : Int) : makeSliceV H e sz bytes zero (.int .i64 l) (.int .i64 c) = if 0 ≤ l ∧ l = c ∧ l * bytes ≤ maxBytes then
      some (.slice (some (H.length, 0)) sz l.toNat (some l.toNat), ⟨H ++ [.cells (zeros l.toNat zero) true], e⟩) else none := rfl
theorem aop_makeSlice (sz bytes : Nat) (zero : List AV) (len cap : X) : aop C g ⟨H, e⟩ (.makeSlice sz bytes zero len cap) = makeSliceV H e sz bytes zero (g len) (g cap) := by
  rw [aop_of_heavy rfl]; rfl

def appendV (H : List Blk) (e : Option Nat) (str : Bool) (sz bytes : Nat) (s x : AV) : Option (AV × Mem) :=
  match s with
  | .slice none _ _ _ => match srcCells str H x with
    | some (n, cs) => if n = 0 then some (nilSlice, ⟨H, e⟩)
        else if n * bytes ≤ maxBytes ∧ cs.length = n * sz then some (.slice (some (H.length, 0)) sz n none, ⟨H ++ [.cells cs true], e⟩) else none
    | none => none
  | .slice (some (b, o)) sz' n cap => match H[b]?, srcCells str H x with
    | some (.cells old wr), some (k, cs) =>
      if sz' = sz ∧ (n + k) * bytes ≤ maxBytes ∧ cs.length = k * sz ∧ o + n * sz ≤ old.length then
        if cap = some 0 ∧ 0 < k then some (.slice (some (H.length, 0)) sz (n + k) none, ⟨H ++ [.cells cs true], e⟩)
        else if wr then some (.slice (some (H.length, 0)) sz (n + k) none, ⟨H.set b .dead ++ [.cells ((old.drop o).take (n * sz) ++ cs) true], e⟩)
        else none
      else none
    | _, _ => none
  | _ => none
theorem aop_append (str : Bool) (sz bytes : Nat) (s x : X) : aop C g ⟨H, e⟩ (.append str sz bytes s x) = appendV H e str sz bytes (g s) (g x) := by
  rw [aop_of_heavy rfl]; rfl

theorem binop_add (k : IntKind) (a b : Int) : binop 0 .add (.int k a) (.int k b) = some (.int k (k.wrap (a + b))) := by simp [binop, intOp]
theorem binop_sub (k : IntKind) (a b : Int) : binop 0 .sub (.int k a) (.int k b) = some (.int k (k.wrap (a - b))) := by simp [binop, intOp]
theorem binop_mul (k : IntKind) (a b : Int) : binop 0 .mul (.int k a) (.int k b) = some (.int k (k.wrap (a * b))) := by simp [binop, intOp]
theorem binop_quo (k : IntKind) (a b : Int) : binop 0 .quo (.int k a) (.int k b) = if b = 0 then none else some (.int k (k.wrap (a.tdiv b))) := by simp [binop, intOp]
theorem binop_rem (k : IntKind) (a b : Int) : binop 0 .rem (.int k a) (.int k b) = if b = 0 then none else some (.int k (a.tmod b)) := by simp [binop, intOp]
theorem binop_eql (k : IntKind) (a b : Int) : binop 0 .eql (.int k a) (.int k b) = some (.bool (decide (a = b))) := by simp [binop, intOp]
theorem binop_neq (k : IntKind) (a b : Int) : binop 0 .neq (.int k a) (.int k b) = some (.bool (!decide (a = b))) := by simp [binop, intOp]
theorem binop_lss (k : IntKind) (a b : Int) : binop 0 .lss (.int k a) (.int k b) = some (.bool (decide (a < b))) := by simp [binop, intOp]
theorem binop_leq (k : IntKind) (a b : Int) : binop 0 .leq (.int k a) (.int k b) = some (.bool (decide (a ≤ b))) := by simp [binop, intOp]
theorem binop_gtr (k : IntKind) (a b : Int) : binop 0 .gtr (.int k a) (.int k b) = some (.bool (decide (b < a))) := by simp [binop, intOp]
theorem binop_geq (k : IntKind) (a b : Int) : binop 0 .geq (.int k a) (.int k b) = some (.bool (decide (b ≤ a))) := by simp [binop, intOp]
def shlI (k : IntKind) (a b : Int) : Int := k.wrap (a * 2 ^ (min b.toNat k.bits))
def shrI (k : IntKind) (a b : Int) : Int := a.fdiv (2 ^ (min b.toNat k.bits))
def andI (k : IntKind) (a b : Int) : Int := k.wrap (BitVec.ofInt k.bits a &&& BitVec.ofInt k.bits b).toNat
def orI (k : IntKind) (a b : Int) : Int := k.wrap (BitVec.ofInt k.bits a ||| BitVec.ofInt k.bits b).toNat
def xorI (k : IntKind) (a b : Int) : Int := k.wrap (BitVec.ofInt k.bits a ^^^ BitVec.ofInt k.bits b).toNat
def andNotI (k : IntKind) (a b : Int) : Int := k.wrap (BitVec.ofInt k.bits a &&& ~~~BitVec.ofInt k.bits b).toNat
theorem binop_shl (k k' : IntKind) (a b : Int) : binop 0 .shl (.int k a) (.int k' b) = if b < 0 then none else some (.int k (shlI k a b)) := by simp [binop, intOp, shlI]
theorem binop_shr (k k' : IntKind) (a b : Int) : binop 0 .shr (.int k a) (.int k' b) = if b < 0 then none else some (.int k (shrI k a b)) := by simp [binop, intOp, shrI]
theorem binop_band (k : IntKind) (a b : Int) : binop 0 .and (.int k a) (.int k b) = some (.int k (andI k a b)) := by simp [binop, intOp, andI]
theorem binop_bor (k : IntKind) (a b : Int) : binop 0 .or (.int k a) (.int k b) = some (.int k (orI k a b)) := by simp [binop, intOp, orI]
theorem binop_bxor (k : IntKind) (a b : Int) : binop 0 .xor (.int k a) (.int k b) = some (.int k (xorI k a b)) := by simp [binop, intOp, xorI]
theorem binop_bandnot (k : IntKind) (a b : Int) : binop 0 .andNot (.int k a) (.int k b) = some (.int k (andNotI k a b)) := by simp [binop, intOp, andNotI]
theorem binop_beql (a b : Bool) : binop 2 .eql (.bool a) (.bool b) = some (.bool (a == b)) := Eq.trans rfl rfl
theorem binop_bneq (a b : Bool) : binop 2 .neq (.bool a) (.bool b) = some (.bool (!(a == b))) := Eq.trans rfl rfl
theorem binop_seql (a b : ByteArray) : binop 1 .eql (.str a) (.str b) = some (.bool (decide (a = b))) := Eq.trans rfl rfl
theorem binop_sneq (a b : ByteArray) : binop 1 .neq (.str a) (.str b) = some (.bool (!decide (a = b))) := Eq.trans rfl rfl
theorem unop_neg (k : IntKind) (n : Int) : unop .neg (.int k n) = some (.int k (k.wrap (0 - n))) := Eq.trans rfl rfl
theorem unop_not (b : Bool) : unop .not (.bool b) = some (.bool !b) := Eq.trans rfl rfl

theorem setOuts_nil : setOuts tm loc [] = tm := Eq.trans rfl rfl
theorem setOuts_cons (s j : Nat) (rest : List (Nat × Nat)) : setOuts tm loc ((s, j) :: rest) = setOuts (tm.set s ((loc[j]?).getD .undef)) loc rest := Eq.trans rfl rfl

/-! memory -/
theorem cellsAt_new0 (l : List Blk) : cellsAt (H ++ l) H.length = cellsAt l 0 := by simp [cellsAt, List.getElem?_append_right]
theorem cellsAt_newk (l : List Blk) (k : Nat) : cellsAt (H ++ l) (H.length + k) = cellsAt l k := by simp [cellsAt, List.getElem?_append_right]
theorem cellsAt_cons0 (cs : List AV) (wr : Bool) (l : List Blk) : cellsAt (.cells cs wr :: l) 0 = some cs := Eq.trans rfl rfl
theorem cellsAt_consk (b : Blk) (l : List Blk) (k : Nat) : cellsAt (b :: l) (k + 1) = cellsAt l k := Eq.trans rfl rfl
theorem cellsAt_old {b : Nat} {cs : List AV} (l : List Blk) (h : cellsAt H b = some cs) : cellsAt (H ++ l) b = some cs := by
  unfold cellsAt at *
  cases hb : H[b]? with
  | none => rw [hb] at h; cases h
  | some x =>
    have hlt := (List.getElem?_eq_some_iff.mp hb).1
    rw [List.getElem?_append_left hlt, hb]
    rw [hb] at h
    exact h

def partOf (agg : Bool) (cs : Option (List AV)) (o sz : Nat) : Option AV :=
  match cs with
  | some cs => part agg cs o sz
  | none => none
theorem partOf_some (agg : Bool) (cs : List AV) (o sz : Nat) : partOf agg (some cs) o sz = part agg cs o sz := Eq.trans rfl rfl
theorem loadAt_ptr (agg : Bool) (sz b o : Nat) (L : List Blk) : loadAt L agg sz (.ptr (some (b, o))) = partOf agg (cellsAt L b) o sz := by
  have h : loadAt L agg sz (.ptr (some (b, o))) = match cellsAt L b with
    | none => none
    | some cs => if agg then (if o + sz ≤ cs.length then some (.agg ((cs.drop o).take sz)) else none) else cs[o]? := rfl
  rw [h]
  cases cellsAt L b <;> rfl
theorem part_false (cs : List AV) (o sz : Nat) : part false cs o sz = cs[o]? := Eq.trans rfl rfl
theorem part_true (cs : List AV) (o sz : Nat) : part true cs o sz = if o + sz ≤ cs.length then some (.agg ((cs.drop o).take sz)) else none := Eq.trans rfl rfl
theorem part_f0 (c : AV) (cs : List AV) (sz : Nat) : part false (c :: cs) 0 sz = some c := Eq.trans rfl rfl
theorem part_fk (c : AV) (cs : List AV) (k sz : Nat) : part false (c :: cs) (k + 1) sz = part false cs k sz := Eq.trans rfl rfl
theorem part_t0 (c : AV) (cs : List AV) (sz : Nat) : part true (c :: cs) 0 sz = if sz ≤ cs.length + 1 then some (.agg ((c :: cs).take sz)) else none := by
  rw [part_true]; simp
theorem part_tk (c : AV) (cs : List AV) (k sz : Nat) : part true (c :: cs) (k + 1) sz = part true cs k sz := by
  rw [part_true, part_true]
  have : (k + 1 + sz ≤ (c :: cs).length) ↔ (k + sz ≤ cs.length) := by simp; omega
  simp only [this, List.drop_succ_cons]

theorem cellsOf_agg (cs : List AV) : cellsOf (.agg cs) = some cs := Eq.trans rfl rfl
theorem cellsOf_int (k : IntKind) (n : Int) : cellsOf (.int k n) = some [.int k n] := Eq.trans rfl rfl
theorem cellsOf_bool (b : Bool) : cellsOf (.bool b) = some [.bool b] := Eq.trans rfl rfl
theorem cellsOf_str (s : ByteArray) : cellsOf (.str s) = some [.str s] := Eq.trans rfl rfl
theorem cellsOf_ptr (p : Option (Nat × Nat)) : cellsOf (.ptr p) = some [.ptr p] := Eq.trans rfl rfl
theorem cellsOf_slice (p : Option (Nat × Nat)) (sz n : Nat) (c : Option Nat) : cellsOf (.slice p sz n c) = some [.slice p sz n c] := Eq.trans rfl rfl
theorem cellsOf_fn (f : FuncId) (a b : List AV) : cellsOf (.fn f a b) = some [.fn f a b] := Eq.trans rfl rfl

/-! two ways that meet again -/
theorem merge_normal (c : Prop) [Decidable c] (t t' : List AV) (m : Mem) : (if c then some (Ex.normal, (⟨t, m⟩ : St)) else some (Ex.normal, ⟨t', m⟩)) = some (Ex.normal, ⟨if c then t else t', m⟩) := by split <;> rfl
theorem merge_cons (c : Prop) [Decidable c] (a b : AV) (as bs : List AV) : (if c then a :: as else b :: bs) = (if c then a else b) :: (if c then as else bs) := by split <;> rfl
theorem merge_bool (c : Prop) [Decidable c] (a b : Bool) : (if c then AV.bool a else AV.bool b) = AV.bool (if c then a else b) := by split <;> rfl
theorem merge_int (c : Prop) [Decidable c] (k : IntKind) (a b : Int) : (if c then AV.int k a else AV.int k b) = AV.int k (if c then a else b) := by split <;> rfl

/-! the end of a call -/
theorem finRun_eq (F : AFun) (m : Mem) (st : St) : finRun F m st = match resultList st.tm st.m.H F.results with
  | some vs => finish F.mode m.H.length m.esc (tupled vs) st.m
  | none => none := rfl
theorem resultList_nil (L : List Blk) : resultList tm L [] = some [] := Eq.trans rfl rfl
def consV (a : Option AV) (as : Option (List AV)) : Option (List AV) :=
  match a, as with
  | some v, some vs => some (v :: vs)
  | _, _ => none
theorem consV_some (v : AV) (vs : List AV) : consV (some v) (some vs) = some (v :: vs) := Eq.trans rfl rfl
theorem resultList_tmp (L : List Blk) (s : Nat) (rs : List AR) : resultList tm L (.tmp s :: rs) = consV (some ((tm[s]?).getD .undef)) (resultList tm L rs) := by
  rw [resultList]; cases resultList tm L rs <;> rfl
theorem resultList_cell (L : List Blk) (s : Nat) (agg : Bool) (sz : Nat) (rs : List AR) : resultList tm L (.cell s agg sz :: rs) = consV (loadAt L agg sz ((tm[s]?).getD .undef)) (resultList tm L rs) := by
  rw [resultList]; cases resultList tm L rs <;> simp only [resultOf] <;> cases loadAt L agg sz ((tm[s]?).getD .undef) <;> rfl

def finV (F : AFun) (m : Mem) (vs : Option (List AV)) (m' : Mem) : Option (AV × Mem) :=
  match vs with
  | some vs => finish F.mode m.H.length m.esc (tupled vs) m'
  | none => none
theorem finRun_finV (F : AFun) (m : Mem) (st : St) : finRun F m st = finV F m (resultList st.tm st.m.H F.results) st.m := Eq.trans rfl rfl
theorem finV_some (F : AFun) (m : Mem) (vs : List AV) (m' : Mem) : finV F m (some vs) m' = finish F.mode m.H.length m.esc (tupled vs) m' := Eq.trans rfl rfl
theorem finish_zero (v : AV) (lim : Nat) (e0 e1 : Option Nat) (L : List Blk) : finish 0 lim e0 v ⟨L, e1⟩ = some (v, ⟨L, joinEsc e0 e1⟩) := Eq.trans rfl rfl
theorem finish_one (v : AV) (e0 : Option Nat) (l : List Blk) (h : v.under H.length = true) : finish 1 H.length e0 v ⟨H ++ l, none⟩ = some (v, ⟨H, e0⟩) := by
  simp [finish, h, clean]
theorem finish_one' (v : AV) (e0 : Option Nat) (h : v.under H.length = true) : finish 1 H.length e0 v ⟨H, none⟩ = some (v, ⟨H, e0⟩) := by
  simp [finish, h, clean]
/-- a new block, named by the result -/
theorem finish_two_slice (sz n : Nat) (c : Option Nat) (cs : List AV) (wr : Bool) (e0 : Option Nat) (h : (cs.all fun c => c.under H.length) = true) :
    finish 2 H.length e0 (.slice (some (H.length, 0)) sz n c) ⟨H ++ [.cells cs wr], none⟩ = some (.slice (some (H.length, 0)) sz n c, ⟨H ++ [.cells cs wr], e0⟩) := by
  have hr : dedup (AV.roots H.length (.slice (some (H.length, 0)) sz n c)) = [H.length] := by simp [AV.roots, dedup]
  unfold finish
  simp only [hr]
  have h2 : ([H.length].all fun b => flatBlk H.length (H ++ [Blk.cells cs wr])[b]?) = true := by
    simp [flatBlk, List.getElem?_append_right]
    simpa using h
  simp only [clean, h2, and_self, if_true]
  simp [AV.rename, renum, List.getElem?_append_right]
theorem finish_two_at {G : List Blk} {j sz n o : Nat} {c : Option Nat} {cs : List AV} {wr : Bool} (e0 : Option Nat) (hG : G[j]? = some (.cells cs wr)) (h : (cs.all fun c => c.under H.length) = true) :
    finish 2 H.length e0 (.slice (some (H.length + j, o)) sz n c) ⟨H ++ G, none⟩ = some (.slice (some (H.length, o)) sz n c, ⟨H ++ [.cells cs wr], e0⟩) := by
  have hlt : ¬ H.length + j < H.length := by omega
  have hr : dedup (AV.roots H.length (.slice (some (H.length + j, o)) sz n c)) = [H.length + j] := by
    unfold AV.roots
    rw [if_neg hlt]
    rfl
  have hb : (H ++ G)[H.length + j]? = some (.cells cs wr) := by rw [List.getElem?_append_right (by omega)]; simpa using hG
  unfold finish
  simp only [hr]
  have h2 : ([H.length + j].all fun b => flatBlk H.length (H ++ G)[b]?) = true := by
    simp only [List.all_cons, List.all_nil, Bool.and_true, hb, flatBlk]
    exact h
  simp only [clean, h2, and_self, if_true]
  simp [AV.rename, renum, hb, hlt]
theorem tupled_one (v : AV) : tupled [v] = v := Eq.trans rfl rfl
theorem tupled_nil : tupled [] = .tup [] := Eq.trans rfl rfl
theorem tupled_two (a b : AV) (vs : List AV) : tupled (a :: b :: vs) = .tup (a :: b :: vs) := Eq.trans rfl rfl
theorem under_int (n : Nat) (k : IntKind) (x : Int) : (AV.int k x).under n = true := by simp [AV.under]
theorem under_bool (n : Nat) (x : Bool) : (AV.bool x).under n = true := by simp [AV.under]
theorem under_str (n : Nat) (x : ByteArray) : (AV.str x).under n = true := by simp [AV.under]
theorem under_agg (n : Nat) (x : List AV) : (AV.agg x).under n = AV.under.go n x := by simp [AV.under]
theorem under_tup (n : Nat) (x : List AV) : (AV.tup x).under n = AV.under.go n x := by simp [AV.under]
theorem under_cons (n : Nat) (a : AV) (x : List AV) : AV.under.go n (a :: x) = (a.under n && AV.under.go n x) := Eq.trans rfl rfl
theorem under_nil (n : Nat) : AV.under.go n [] = true := Eq.trans rfl rfl

theorem blkAt_new0 (l : List Blk) : (H ++ l)[H.length]? = l[0]? := by simp [List.getElem?_append_right]
theorem blkAt_newk (l : List Blk) (k : Nat) : (H ++ l)[H.length + k]? = l[k]? := by simp [List.getElem?_append_right]
theorem set_new0 (l : List Blk) (b : Blk) : (H ++ l).set H.length b = H ++ l.set 0 b := by simp [List.set_append_right]
theorem set_newk (l : List Blk) (b : Blk) (k : Nat) : (H ++ l).set (H.length + k) b = H ++ l.set k b := by simp [List.set_append_right]

/-- a store whose block and cells are told -/
def storeAt (H : List Blk) (e : Option Nat) (b : Nat) (blk : Option Blk) (sz o : Nat) (new : Option (List AV)) : Option (AV × Mem) :=
  match new, blk with
  | some new, some (Blk.cells cs true) => if new.length = sz ∧ 0 < sz ∧ o + sz ≤ cs.length then
        some (.tup [], ⟨H.set b (.cells (setRange cs o new) true), if (new.all fun v => v.under (b + 1)) then e else minEsc e b⟩) else none
  | _, _ => none
theorem storeV_ptr (L : List Blk) (sz b o : Nat) (x : AV) : storeV L e sz (.ptr (some (b, o))) x = storeAt L e b L[b]? sz o (cellsOf x) := by
  unfold storeV storeAt
  cases cellsOf x with
  | none => rfl
  | some new =>
    simp only []
    cases L[b]? with
    | none => rfl
    | some B => cases B with
      | dead => rfl
      | cells cs wr => cases wr <;> rfl
theorem storeAt_cells (L : List Blk) (b : Nat) (cs new : List AV) (sz o : Nat) : storeAt L e b (some (.cells cs true)) sz o (some new) =
    if new.length = sz ∧ 0 < sz ∧ o + sz ≤ cs.length then some (.tup [], ⟨L.set b (.cells (setRange cs o new) true), if (new.all fun v => v.under (b + 1)) then e else minEsc e b⟩) else none := Eq.trans rfl rfl
theorem setRange_0 (c : AV) (cs : List AV) (x : AV) (xs : List AV) : setRange (c :: cs) 0 (x :: xs) = x :: setRange cs 0 xs := by simp [setRange]
theorem setRange_k (c : AV) (cs : List AV) (k : Nat) (xs : List AV) : setRange (c :: cs) (k + 1) xs = c :: setRange cs k xs := by
  simp [setRange, Nat.add_right_comm]
theorem setRange_nil (cs : List AV) : setRange cs 0 [] = cs := by simp [setRange]
theorem all_cons (p : AV → Bool) (c : AV) (cs : List AV) : (c :: cs).all p = (p c && cs.all p) := rfl
theorem all_nil (p : AV → Bool) : ([] : List AV).all p = true := Eq.trans rfl rfl

theorem wrap64 {x : Int} (h1 : -9223372036854775808 ≤ x) (h2 : x ≤ 9223372036854775807) : IntKind.i64.wrap x = x := by
  have : IntKind.i64.wrap x = x := by
    unfold IntKind.wrap
    simp [IntKind.signed, IntKind.bits]
    omega
  exact this
end
attribute [go_sem] Nat.mul_one
attribute [go_sem] run_seq run_cond run_block run_region run_draw run_skip run_exit run_ret thenRun_normal thenRun_ret thenRun_exit thenRun_none thenRun_ite inBlock_normal inBlock_ret inBlock_exit inBlock_none inBlock_ite condOf_bool pickRun_some outRun_some outRun_none outRun_ite endCall_normal endCall_ret endCall_exit endCall_none endCall_ite aops_nil aops_cons aops_guard opThen_some opThen_none opThen_ite guardP_true guardP_false guardP_some guardP_ite guardThen_some guardThen_ite guardOf_true guardOf_false guardOf_tup dops_nil dops_cons dops_again dops_guard dops_guard_again toldAnew_nil toldAnew_cons toldAnew_guard memop_load get_t get_l get_c valOf_some valOf_none valOf_ite aop_mv aop_bin pickV_bool aop_pick aop_un aop_makeFunc convV_int aop_conv eqCellsV_agg aop_eqCells fieldAddrV_ptr aop_fieldAddr fieldV_agg aop_field indexAddrSV_slice aop_indexAddrS indexAddrAV_ptr aop_indexAddrA indexAV_agg aop_indexA indexSV_str aop_indexS extractV_tup aop_extract lenV_slice aop_len lenStrV_str aop_lenStr aop_lenA max2V_int aop_max2 min2V_int aop_min2 aop_build aop_load aop_alloc boxV_some aop_box buildSliceV_some aop_buildSlice aop_store callV_fn aop_call makeSliceV_int aop_makeSlice aop_append binop_add binop_sub binop_mul binop_quo binop_rem binop_eql binop_neq binop_lss binop_leq binop_gtr binop_geq binop_shl binop_shr binop_band binop_bor binop_bxor binop_bandnot binop_beql binop_bneq binop_seql binop_sneq unop_neg unop_not setOuts_nil setOuts_cons cellsAt_new0 cellsAt_newk cellsAt_cons0 cellsAt_consk partOf_some loadAt_ptr part_f0 part_fk part_t0 part_tk blkAt_new0 blkAt_newk set_new0 set_newk storeV_ptr storeAt_cells setRange_0 setRange_k setRange_nil all_cons all_nil cellsOf_agg cellsOf_int cellsOf_bool cellsOf_str cellsOf_ptr cellsOf_slice cellsOf_fn merge_normal merge_cons merge_bool merge_int resultList_nil consV_some resultList_tmp resultList_cell finRun_finV finV_some finish_zero finish_one finish_one' finish_two_slice tupled_one tupled_nil tupled_two under_int under_bool under_str under_agg under_tup under_cons under_nil List.map_cons List.map_nil List.getElem?_cons_zero List.getElem?_cons_succ List.getElem?_nil Option.getD_some Option.getD_none List.nil_append List.cons_append List.append_nil List.append_assoc List.set_cons_zero List.set_cons_succ List.length_cons List.length_nil List.length_append Nat.zero_add Nat.add_zero List.take_succ_cons List.take_zero List.drop_succ_cons List.drop_zero if_true if_false Bool.not_true Bool.not_false Bool.true_eq_false Bool.false_and Bool.and_false Bool.or_true Bool.or_false Bool.true_or Bool.false_or Nat.lt_add_one Nat.succ_pos Bool.if_false_right Bool.if_true_left Bool.if_true_right Bool.if_false_left Bool.decide_eq_true Int.toNat_natCast Int.natCast_nonneg Int.ofNat_lt ite_self Bool.true_and Bool.and_true Bool.false_eq_true Bool.not_eq_true' decide_eq_true_eq true_and and_true Option.map_some Option.map_none

end Go.Proofs.Ytlocjmbfcdfjfaa.Slim
