/- Does an operation over deep values fit the model's operation? A check by computation. -/
import Derived.Test.YtkadcajmlkmhjabGreatDpOps
namespace Go.Dp
open Go.RowKit

def sval : Value → V → Bool
  | .bool a, .bool b => a == b
  | .int k a, .int k' b => k == k' && a == b
  | .string a, .str b => decide (a = b)
  | .pointer none, .nilp => true
  | .slice none 0 0, .nils => true
  | .map none, .nilm => true
  | .nilFunc, .nilf => true
  | .nilIface, .nili => true
  | _, _ => false
def svals : List Value → List V → Bool
  | [], [] => true
  | x :: l, v :: m => sval x v && svals l m
  | _, _ => false
def valIs : Value → V → Bool
  | .agg cs, .agg l => svals cs.toList l
  | .tuple cs, .tup l => svals cs.toList l
  | x, v => sval x v

def okOpd : Operand → Opd → Bool
  | .tmp t, .t n => t == n
  | .const v, .c u => valIs v u
  | .func f, .c (.clo (.func g) [] []) => f == g
  | _, _ => false
def okOpds : List Operand → List Opd → Bool
  | [], [] => true
  | x :: l, v :: m => okOpd x v && okOpds l m
  | _, _ => false
def okOpdO : Option Operand → Option Opd → Bool
  | none, none => true
  | some x, some y => okOpd x y
  | _, _ => false

def isAggD : TypeDesc → Bool
  | .struct _ | .array _ _ => true
  | _ => false

def sizeIs (P : Program) (t : TypeId) (n : Nat) : Bool := match P.info? t with | some i => i.size == n | none => false
def bytesIs (P : Program) (t : TypeId) (n : Nat) : Bool := match P.info? t with | some i => i.bytes == n | none => false
/-- n: an aggregate of so many cells; none: one cell -/
def okShape (P : Program) (t : TypeId) (n : Option Nat) : Bool :=
  match P.underlying t, n with
  | some d, some k => isAggD d && sizeIs P t k
  | some d, none => !isAggD d && (P.info? t).isSome
  | _, _ => false
def zeroIs (P : Program) (t : TypeId) (z : List V) : Bool :=
  match P.info? t with
  | some i => (match i.zero with | some v => svals v.cells.toList z | none => false)
  | none => false

def okParts (place : Nat → Option (Nat × Nat)) : List (Nat × Operand) → List (Nat × Nat × Opd) → Bool
  | [], [] => true
  | (i, x) :: l, (off, size, y) :: m => place i == some (off, size) && okOpd x y && okParts place l m
  | _, _ => false
def placesOf (P : Program) (fs : List Field) : Option (List (Nat × Nat)) := fs.mapM fun f => (P.info? f.type).map fun i => (f.offset, i.size)
def okBuild (P : Program) (t : TypeId) (parts : List (Nat × Operand)) (z : List V) (ps : List (Nat × Nat × Opd)) : Bool :=
  zeroIs P t z &&
  match P.underlying t with
  | some (.struct fields) => match placesOf P fields.toList with
    | some places => okParts (places.toArray[·]?) parts ps
    | none => false
  | some (.array _ e) => match P.info? e with
    | some ie => okParts (fun i => some (i * ie.size, ie.size)) parts ps
    | none => false
  | _ => false
def repV (z : List V) : Nat → List V
  | 0 => []
  | n + 1 => z ++ repV z n
def okBsl (P : Program) (t : TypeId) (len : Nat) (parts : List (Nat × Operand)) (sz : Nat) (z : List V) (ps : List (Nat × Nat × Opd)) : Bool :=
  match P.underlying t with
  | some (.slice e) => sizeIs P e sz && decide (len * sz ≤ 16777216) && okParts (fun i => some (i * sz, sz)) parts ps &&
      (match P.info? e with
       | some i => match i.zero with | some v => decide (v.cells.size = sz) && svals (List.replicate len v.cells.toList).flatten z | none => false
       | none => false)
  | _ => false
def okNilT (P : Program) (t : TypeId) (kd : Nat) (y : Operand) : Bool :=
  match P.underlying t, kd with
  | some (.pointer _), 0 => true
  | some (.slice _), 1 => true
  | some (.map _ _), 2 => true
  | some (.func _ _ _), 3 => true
  | some (.interface _), 4 => match y with | .const _ => true | _ => false
  | _, _ => false
/-- '==', or '!=' -/
def eqneg : BinOp → Bool → Bool
  | .eql, false => true
  | .neq, true => true
  | _, _ => false
def concreteT (P : Program) (t : TypeId) : Bool := match P.underlying t with | some (.interface _) => false | some _ => true | none => false
def okSliceT (P : Program) (t : TypeId) (arr : Option Nat) (sz : Nat) : Bool :=
  match P.underlying t, arr with
  | some (.slice e), none => sizeIs P e sz
  | some (.array n e), some m => n == m && sizeIs P e sz
  | _, _ => false
def okField (P : Program) (s : TypeId) (f : Nat) (off : Nat) : Bool :=
  match P.underlying s with
  | some (.struct fields) => match fields[f]? with | some fd => fd.offset == off && (match P.info? fd.type with | some i => i.size != 0 | none => false) | none => false
  | _ => false
def okFieldV (P : Program) (s : TypeId) (f : Nat) (n : Option Nat) (off : Nat) : Bool :=
  match P.underlying s with
  | some (.struct fields) => match fields[f]? with | some fd => fd.offset == off && okShape P fd.type n | none => false
  | _ => false
def okIndexT (P : Program) (t : TypeId) (arr : Option Nat) (sz : Nat) : Bool := okSliceT P t arr sz
def okLenT (P : Program) (t : TypeId) (arr : Option Nat) : Bool :=
  match P.underlying t, arr with
  | some (.slice _), none => true
  | some (.array n _), some m => n == m
  | _, _ => false
def okAppT (P : Program) (t u : TypeId) (sz bytes : Nat) : Bool :=
  t == u && (match P.underlying t with
    | some (.slice e) => sizeIs P e sz && bytesIs P e bytes && decide (0 < sz) && (match P.info? e with | some i => (match i.zero with | some v => decide (v.cells.size = sz) | none => false) | none => false)
    | _ => false)
def okCpyT (P : Program) (t u : TypeId) (sz : Nat) : Bool :=
  match P.underlying t, P.underlying u with
  | some (.slice e), some (.slice _) => sizeIs P e sz
  | _, _ => false
def okMakeT (P : Program) (t : TypeId) (sz bytes : Nat) (z : List V) : Bool :=
  match P.underlying t with
  | some (.slice e) => sizeIs P e sz && bytesIs P e bytes && zeroIs P e z
  | _ => false
def intT (P : Program) (t : TypeId) : Bool := match P.underlying t with | some (.int _) => true | _ => false

def okArrV (P : Program) (t : TypeId) (n : Option Nat) (len sz : Nat) : Bool :=
  match P.underlying t with
  | some (.array m e) => m == len && sizeIs P e sz && okShape P e n
  | _ => false

def isNilS : Operand → Bool
  | .const (.slice none 0 0) => true
  | _ => false

def okAppzT (P : Program) (t u : TypeId) (sz bytes : Nat) (z : List V) : Bool :=
  okAppT P t t sz bytes && intT P u && (match P.underlying t with | some (.slice e) => zeroIs P e z | _ => false)
def okKeyT (P : Program) (kd : Nat) (t : TypeId) : Bool := match P.underlying t, kd with | some (.int _), 0 => true | some .string, 1 => true | some .bool, 2 => true | _, _ => false
def okMapT (P : Program) (kd : Nat) (t : TypeId) : Bool := match P.underlying t with | some (.map k _) => okKeyT P kd k | _ => false
def okLkpT (P : Program) (kd : Nat) (t : TypeId) (z : V) : Bool :=
  match P.underlying t with
  | some (.map k e) => okKeyT P kd k && (match P.info? e with | some i => (match i.zero with | some v => valIs v z | none => false) | none => false)
  | _ => false

/-- fields of numbers, one behind the other -/
def okEqF (P : Program) : List Field → Nat → Bool
  | [], _ => true
  | f :: fs, i => f.name != "_" && f.offset == i && P.plainKey f.type && intT P f.type && okEqF P fs (i + 1)
def okEqT (P : Program) (t : TypeId) (n : Nat) : Bool :=
  match P.underlying t with
  | some (.struct fs) => fs.size == n && okEqF P fs.toList 0 && !P.stoodInHeld t && !P.eqGuardType P.depth t
  | _ => false

def okOp2 (P : Program) (o : Op) (op : IOp) : Bool :=
  match o, op with
  | _, .bad => true
  | .load t a, .loadx n b _ => okOpd a b && okShape P t n
  | .call { callee := .builtin .append, args, argTypes }, .appx _ sz bytes s x =>
      (match args.toList, argTypes.toList with | [a, b], [t, u] => okOpd a s && okOpd b x && okAppT P t u sz bytes | _, _ => false)
  | .call { callee := .builtin .append, args, argTypes }, .appz sz bytes z s n =>
      (match args.toList, argTypes.toList with | [a, b], [t, u] => okOpd a s && okOpd b n && okAppzT P t u sz bytes z | _, _ => false)
  | .index t x i, .sidx x' i' => okOpd x x' && okOpd i i' && (match P.underlying t with | some .string => true | _ => false)
  | .makeMap _ none, .mkm => true
  | .lookup t m k c, .lkp kd z ok m' k' => c == ok && okOpd m m' && okOpd k k' && okLkpT P kd t z
  | .mapUpdate t m k x, .mput kd m' k' x' => okOpd m m' && okOpd k k' && okOpd x x' && okMapT P kd t
  | .insert t m k x, .mput kd m' k' x' => okOpd m m' && okOpd k k' && okOpd x x' && okMapT P kd t
  | .binOp b t x y _, .eqs n neg x' y' => eqneg b neg && okOpd x x' && okOpd y y' && okEqT P t n
  | _, _ => false

def okOp (P : Program) (o : Op) (op : IOp) : Bool :=
  match o, op with
  | .move x, .mv y => okOpd x y
  | .assign x, .mv y => okOpd x y
  | .pick a b c, .pick a' b' c' => okOpd a a' && okOpd b b' && okOpd c c'
  | .alloc t, .alloc z _ => zeroIs P t z
  | .box _ x, .box _ y => okOpd x y
  | .build t parts, .build z ps => okBuild P t parts.toList z ps
  | .buildSlice t len parts, .bsl sz len' z ps => len == len' && okBsl P t len parts.toList sz z ps
  | .load t a, .load n b => okOpd a b && okShape P t n
  | .store t a x, .store n b y => okOpd a b && okOpd x y && sizeIs P t n
  | .nilCheck x, .nilc y => okOpd x y
  | .binOp b _ x y _, .bin b' x' y' => decide (b = b') && okOpd x x' && okOpd y y'
  | .binOp b t x y _, .eqb neg x' y' => eqneg b neg && okOpd x x' && okOpd y y' && (match P.underlying t with | some .bool => true | _ => false)
  | .binOp b t x y _, .eqn kd neg x' y' => eqneg b neg && okOpd x x' && okOpd y y' && okNilT P t kd y
  | .unOp u _ x, .un u' x' => decide (u = u') && okOpd x x'
  | .convert s d x, .cvt k x' => okOpd x x' && intT P s && (match P.underlying d with | some (.int k') => decide (k = k') | _ => false)
  | .makeInterface t x, .mkif t' x' => t == t' && okOpd x x' && concreteT P t
  | .makeFunc fn f c, .mkfn fn' f' c' => decide (fn = fn') && okOpds f.toList f' && okOpds c.toList c'
  | .makeSlice t l c, .mksl sz bytes z l' c' => okOpd l l' && okOpd c c' && okMakeT P t sz bytes z
  | .slice t x lo hi mx, .slc arr sz x' lo' hi' mx' => okOpd x x' && okOpdO lo lo' && okOpdO hi hi' && okOpdO mx mx' && okSliceT P t arr sz
  | .fieldAddr s x f, .faddr off x' => okOpd x x' && okField P s f off
  | .field s x f, .fld n off x' => okOpd x x' && okFieldV P s f n off
  | .indexAddr t x i, .iaddr arr sz x' i' => okOpd x x' && okOpd i i' && okIndexT P t arr sz
  | .extract x i, .ext i' x' => i == i' && okOpd x x'
  | .call { callee := .builtin .len, args, argTypes }, .len arr x' =>
      (match args.toList, argTypes.toList with | [x], [t] => okOpd x x' && okLenT P t arr | _, _ => false)
  | .call { callee := .builtin .len, args, argTypes }, .slen x' =>
      (match args.toList, argTypes.toList with | [x], [t] => okOpd x x' && (match P.underlying t with | some .string => true | _ => false) | _, _ => false)
  | .call { callee := .builtin .min, args, .. }, .mn xs => okOpds args.toList xs
  | .call { callee := .builtin .max, args, .. }, .mx xs => okOpds args.toList xs
  | .call { callee := .builtin .append, args, argTypes }, .app sz bytes s x =>
      (match args.toList, argTypes.toList with | [a, b], [t, u] => okOpd a s && okOpd b x && okAppT P t u sz bytes | _, _ => false)
  | .call { callee := .builtin .copy, args, argTypes }, .cpy sz d s =>
      (match args.toList, argTypes.toList with | [a, b], [t, u] => okOpd a d && okOpd b s && okCpyT P t u sz | _, _ => false)
  | .call { callee := .value (.func f), args, .. }, .call f' xs => f == f' && okOpds args.toList xs && (P.funcs[f]?).any (fun fn => fn.body.isSome && fn.name != "runtime.NumGoroutine")
  | .call { callee := .value g, args, .. }, .callv g' xs => okOpd g g' && okOpds args.toList xs
  | .call { callee := .invoke r name, args, .. }, .inv name' r' xs => decide (name = name') && okOpd r r' && okOpds args.toList xs
  | .index t x i, .aidx n len sz x' i' => okOpd x x' && okOpd i i' && okArrV P t n len sz
  | .move x, .nilo _ => isNilS x
  | .assign x, .nilo _ => isNilS x
  | o, op => okOp2 P o op

theorem sval_dr {G : Gm} {x : Value} {v : V} (h : sval x v = true) : DR G v x := by
  unfold sval at h
  split at h <;> simp at h
  · subst h; exact .bool _
  · obtain ⟨rfl, rfl⟩ := h; exact .int _ _
  · subst h; exact .str _
  · exact .nilp
  · exact .nils
  · exact .nilm
  · exact .nilf
  · exact .nili
theorem svals_dr {G : Gm} : ∀ {l : List Value} {m : List V}, svals l m = true → DRL G m l
  | [], [], _ => .nil
  | x :: l, v :: m, h => by simp [svals] at h; exact .cons (sval_dr h.1) (svals_dr h.2)
  | [], _ :: _, h => by simp [svals] at h
  | _ :: _, [], h => by simp [svals] at h
theorem sval_one {x : Value} {v : V} (h : sval x v = true) : x.oneCell' = true := by
  unfold sval at h
  split at h <;> first | rfl | cases h
theorem svals_ones : ∀ {l : List Value} {m : List V}, svals l m = true → Ones l
  | [], _, _ => fun x hx => by cases hx
  | x :: l, v :: m, h => by
    simp [svals] at h
    intro y hy
    rcases List.mem_cons.1 hy with rfl | hy
    · exact sval_one h.1
    · exact svals_ones h.2 y hy
  | _ :: _, [], h => by simp [svals] at h
theorem valIs_dr {G : Gm} {x : Value} {v : V} (h : valIs x v = true) : DR G v x := by
  unfold valIs at h
  split at h
  · rename_i cs l; have := DR.agg (svals_dr (G := G) h) (svals_ones h); simpa using this
  · rename_i cs l; have := DR.tup (svals_dr (G := G) h); simpa using this
  · exact sval_dr h

end Go.Dp
