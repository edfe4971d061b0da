import GoSem.Dispatch
import Derived.Below
import Derived.Laws.CopyRow
import Derived.Laws.AppendOwn
import Derived.Laws.Rows
import Derived.Laws.Strings
import Derived.Laws.StructEq
set_option linter.unusedSectionVars false
set_option linter.unusedVariables false
set_option linter.unusedSimpArgs false
section
set_option linter.unusedSectionVars false
namespace Go.Ax
class Globs where
  gl : List Nat
inductive V where
  | undef
  | bool (b : Bool)
  | int (k : IntKind) (n : Int)
  | str (s : List UInt8)
  | ptr (b o : Nat)
  | nilptr
  | slice (b o len : Nat) (cap : Option Nat) (e : Nat)
  | nilslice
  | map (b : Nat)
  | nilmap
  | func (f : Nat) (first caps : List V)
  | yield (l : Nat)
  | nilfunc
  | iface (t : Nat) (v : V)
  | niliface
  | agg (cs : List V)
  | tup (cs : List V)
  deriving Inhabited
def V.cells : V → List V
  | .agg cs => cs
  | v => [v]
def V.scalar : V → Bool
  | .agg _ | .tup _ | .undef => false
  | _ => true
def onat : Option Nat → Option Nat → Bool
  | some a, some b => Nat.beq a b
  | none, none => true
  | _, _ => false
def ikEq : IntKind → IntKind → Bool
  | .i8, .i8 | .i16, .i16 | .i32, .i32 | .i64, .i64 | .u8, .u8 | .u16, .u16 | .u32, .u32 | .u64, .u64 => true
  | _, _ => false
def bytesEq : List UInt8 → List UInt8 → Bool
  | [], [] => true
  | a :: x, b :: y => Nat.beq a.toNat b.toNat && bytesEq x y
  | _, _ => false
mutual
def V.same : V → V → Bool
  | .undef, .undef => true
  | .bool a, .bool b => a == b
  | .int k a, .int j b => ikEq k j && decide (a = b)
  | .str a, .str b => bytesEq a b
  | .ptr b o, .ptr c p => Nat.beq b c && Nat.beq o p
  | .nilptr, .nilptr => true
  | .slice b o l c e, .slice b' o' l' c' e' => Nat.beq b b' && Nat.beq o o' && Nat.beq l l' && onat c c' && Nat.beq e e'
  | .nilslice, .nilslice => true
  | .map a, .map b => Nat.beq a b
  | .nilmap, .nilmap => true
  | .func f x y, .func g x' y' => Nat.beq f g && V.sames x x' && V.sames y y'
  | .yield a, .yield b => Nat.beq a b
  | .nilfunc, .nilfunc => true
  | .iface t v, .iface u w => Nat.beq t u && V.same v w
  | .niliface, .niliface => true
  | .agg x, .agg y => V.sames x y
  | .tup x, .tup y => V.sames x y
  | _, _ => false
def V.sames : List V → List V → Bool
  | [], [] => true
  | a :: x, b :: y => V.same a b && V.sames x y
  | _, _ => false
end
class Rep (S : Type → Type) where
  emp : {α : Type} → S α
  get : {α : Type} → S α → Nat → Option α
  set : {α : Type} → S α → Nat → α → S α
  get_emp : ∀ {α : Type} (i : Nat), get (emp : S α) i = none
  get_set : ∀ {α : Type} (s : S α) (i : Nat) (v : α) (j : Nat), get (set s i v) j = if j = i then some v else get s j
structure FnR (α : Type) where
  f : Nat → Option α
instance : Rep FnR where
  emp := ⟨fun _ => none⟩
  get s i := s.f i
  set s i v := ⟨fun j => bif Nat.beq j i then some v else s.f j⟩
  get_emp _ := rfl
  get_set s i v j := by
    by_cases h : j = i
    · subst h; simp
    · have : Nat.beq j i = false := by
        cases hb : Nat.beq j i with
        | false => rfl
        | true => exact absurd (Nat.eq_of_beq_eq_true hb) h
      simp [this, h]
inductive Tr (α : Type) where
  | lf
  | nd (l : Tr α) (v : Option α) (r : Tr α)
def Tr.get {α : Type} : Tr α → Nat → Option α
  | .lf, _ => none
  | .nd l v r, i => match i with
    | 0 => v
    | j + 1 => bif Nat.beq (j % 2) 0 then l.get (j / 2) else r.get (j / 2)
def Tr.setF {α : Type} (x : α) : Nat → Tr α → Nat → Tr α
  | 0, t, _ => t
  | n + 1, .lf, i => match i with
    | 0 => .nd .lf (some x) .lf
    | j + 1 => bif Nat.beq (j % 2) 0 then .nd (Tr.setF x n .lf (j / 2)) none .lf else .nd .lf none (Tr.setF x n .lf (j / 2))
  | n + 1, .nd l v r, i => match i with
    | 0 => .nd l (some x) r
    | j + 1 => bif Nat.beq (j % 2) 0 then .nd (Tr.setF x n l (j / 2)) v r else .nd l v (Tr.setF x n r (j / 2))
def Tr.set {α : Type} (t : Tr α) (i : Nat) (x : α) : Tr α := Tr.setF x (i + 1) t i
theorem Tr.get_lf {α : Type} (i : Nat) : (Tr.lf : Tr α).get i = none := by cases i <;> rfl
theorem beq0 (a : Nat) : Nat.beq (a % 2) 0 = decide (a % 2 = 0) := by
  rcases Nat.mod_two_eq_zero_or_one a with h | h <;> rw [h] <;> rfl
theorem Tr.get_succ {α : Type} (l r : Tr α) (v : Option α) (j : Nat) :
    (Tr.nd l v r).get (j + 1) = if j % 2 = 0 then l.get (j / 2) else r.get (j / 2) := by
  show (bif Nat.beq (j % 2) 0 then l.get (j / 2) else r.get (j / 2)) = _
  rw [beq0]; by_cases h : j % 2 = 0 <;> simp [h]
theorem Tr.setF_lf_succ {α : Type} (x : α) (n i : Nat) :
    Tr.setF x (n + 1) .lf (i + 1) = if i % 2 = 0 then .nd (Tr.setF x n .lf (i / 2)) none .lf else .nd .lf none (Tr.setF x n .lf (i / 2)) := by
  show (bif Nat.beq (i % 2) 0 then Tr.nd (Tr.setF x n .lf (i / 2)) none .lf else .nd .lf none (Tr.setF x n .lf (i / 2))) = _
  rw [beq0]; by_cases h : i % 2 = 0 <;> simp [h]
theorem Tr.setF_nd_succ {α : Type} (x : α) (n i : Nat) (l r : Tr α) (v : Option α) :
    Tr.setF x (n + 1) (.nd l v r) (i + 1) = if i % 2 = 0 then .nd (Tr.setF x n l (i / 2)) v r else .nd l v (Tr.setF x n r (i / 2)) := by
  show (bif Nat.beq (i % 2) 0 then Tr.nd (Tr.setF x n l (i / 2)) v r else .nd l v (Tr.setF x n r (i / 2))) = _
  rw [beq0]; by_cases h : i % 2 = 0 <;> simp [h]
theorem Tr.get_setF {α : Type} (x : α) : ∀ (n : Nat) (t : Tr α) (i : Nat), i < n → ∀ j, (Tr.setF x n t i).get j = if j = i then some x else t.get j := by
  intro n
  induction n with
  | zero => intro t i h; omega
  | succ n ih =>
    intro t i h j
    cases t with
    | lf =>
      cases i with
      | zero =>
        cases j with
        | zero => simp [Tr.setF, Tr.get]
        | succ j => simp [Tr.setF, Tr.get_succ, Tr.get_lf]
      | succ i =>
        have h1 := ih .lf (i / 2) (by omega)
        rw [Tr.setF_lf_succ]
        by_cases hp : i % 2 = 0
        · rw [if_pos hp]
          cases j with
          | zero => simp [Tr.get]
          | succ j =>
            rw [Tr.get_succ, h1]
            by_cases hq : j % 2 = 0
            · rw [if_pos hq]
              by_cases he : j / 2 = i / 2
              · rw [if_pos he, if_pos (by omega)]
              · rw [if_neg he, if_neg (by omega), Tr.get_lf, Tr.get_lf]
            · rw [if_neg hq, if_neg (by omega), Tr.get_lf, Tr.get_lf]
        · rw [if_neg hp]
          cases j with
          | zero => simp [Tr.get]
          | succ j =>
            rw [Tr.get_succ, h1]
            by_cases hq : j % 2 = 0
            · rw [if_pos hq, if_neg (by omega), Tr.get_lf, Tr.get_lf]
            · rw [if_neg hq]
              by_cases he : j / 2 = i / 2
              · rw [if_pos he, if_pos (by omega)]
              · rw [if_neg he, if_neg (by omega), Tr.get_lf, Tr.get_lf]
    | nd l v r =>
      cases i with
      | zero =>
        cases j with
        | zero => simp [Tr.setF, Tr.get]
        | succ j => simp [Tr.setF, Tr.get_succ]
      | succ i =>
        rw [Tr.setF_nd_succ]
        by_cases hp : i % 2 = 0
        · have h1 := ih l (i / 2) (by omega)
          rw [if_pos hp]
          cases j with
          | zero => simp [Tr.get]
          | succ j =>
            rw [Tr.get_succ, Tr.get_succ, h1]
            by_cases hq : j % 2 = 0
            · rw [if_pos hq, if_pos hq]
              by_cases he : j / 2 = i / 2
              · rw [if_pos he, if_pos (by omega)]
              · rw [if_neg he, if_neg (by omega)]
            · rw [if_neg hq, if_neg hq, if_neg (by omega)]
        · have h1 := ih r (i / 2) (by omega)
          rw [if_neg hp]
          cases j with
          | zero => simp [Tr.get]
          | succ j =>
            rw [Tr.get_succ, Tr.get_succ, h1]
            by_cases hq : j % 2 = 0
            · rw [if_pos hq, if_pos hq, if_neg (by omega)]
            · rw [if_neg hq, if_neg hq]
              by_cases he : j / 2 = i / 2
              · rw [if_pos he, if_pos (by omega)]
              · rw [if_neg he, if_neg (by omega)]
instance : Rep Tr where
  emp := .lf
  get t i := t.get i
  set t i v := t.set i v
  get_emp i := Tr.get_lf i
  get_set s i v j := Tr.get_setF v (i + 1) s i (Nat.lt_succ_self i) j
inductive CK where
  | i | b | s
  deriving DecidableEq
inductive EqK where
  | sc (c : CK)
  | pt | sl | mp | fn
  | ag (ks : List CK)
inductive Opd where
  | t (n : Nat)
  | c (v : V)
  deriving Inhabited
inductive IOp where
  | mv (x : Opd)
  | pick (c a b : Opd)
  | mkfn (f : Nat) (first caps : List Opd)
  | mkif (t : Nat) (x : Opd)
  | ext (x : Opd) (i : Nat)
  | nilck (x : Opd)
  | fa (x : Opd) (off : Nat)
  | fld (agg : Bool) (off sz : Nat) (x : Opd)
  | ia (e : Nat) (x i : Opd)
  | iaa (len e : Nat) (x i : Opd)
  | ix (len e : Nat) (agg : Bool) (x i : Opd)
  | ixs (x i : Opd)
  | bin (op : BinOp) (x y : Opd)
  | eqv (q : EqK) (neg : Bool) (x y : Opd)
  | un (op : UnOp) (x : Opd)
  | conv (k : IntKind) (x : Opd)
  | len (str : Bool) (x : Opd)
  | lenc (n : Nat)
  | mn (x : Opd) (ys : List Opd)
  | mx (x : Opd) (ys : List Opd)
  | slc (e : Nat) (x : Opd) (lo hi mx : Option Opd)
  | slcs (x : Opd) (lo hi : Option Opd)
  | slca (len e : Nat) (x : Opd) (lo hi mx : Option Opd)
  | bld (zero : List V) (parts : List (Nat × Nat × Opd))
  | ld (agg : Bool) (n : Nat) (a : Opd)
  | lenm (x : Opd)
  | lkp (q : EqK) (zero : V) (ok : Bool) (m k : Opd)
  | box (x : Opd)
  | alloc (zero : V)
  | bldS (e len : Nat) (zero : List V) (parts : List (Nat × Nat × Opd))
  | mksl (e bytes : Nat) (zero : List V) (l c : Opd)
  | mkmap
  | rng (x : Opd)
  | st (n : Nat) (a v : Opd)
  | mapup (q : EqK) (m k v : Opd)
  | ment (q : EqK) (zero : V) (m k : Opd)
  | mst (m s v : Opd)
  | app (e bytes : Nat) (s x : Opd)
  | cpy (e : Nat) (d s : Opd)
  | clr (m : Opd)
  | nxt (x : Opd)
  | call (f : Opd) (args : List Opd)
  deriving Inhabited
structure IOper where
  dst : Option Nat
  op : IOp
  guard : Option (Nat × Bool) := none
  deriving Inhabited
structure DOper where
  o : IOper
  heavy : Bool := false
  rechk : List IOper := []
  back : List Nat := []
  deriving Inhabited
inductive ICode where
  | skip
  | region (ops : List IOper)
  | draw (ops : List DOper)
  | seq (a b : ICode)
  | cond (c : Opd) (a b : ICode)
  | block (id : Nat) (b : ICode)
  | loop (b : ICode)
  | scope (b : ICode)
  | rangef (f : Opd) (ps : List Nat) (asg body : ICode)
  | exit (id : Nat)
  | ret
  deriving Inhabited
inductive X where
  | normal
  | exit (id : Nat)
  | ret
  deriving Inhabited
inductive IRes where
  | tmp (t : Nat)
  | cell (a : Nat) (agg : Bool) (n : Nat)
structure IFun where
  nt : Nat
  code : ICode
  res : List IRes
structure BA where
  ro : Bool := false
  anc : List Nat := []
  sl : Nat := 0
  child : Bool := false
inductive Blk (S : Type → Type) where
  | arr (cs : List V) (a : BA)
  | map (es : List (V × V × Nat)) (clk : Nat)
  | iter (s : List UInt8) (pos : Nat)
  | loop (st : LoopState) (pend : X) (τ : S V) (ps : List Nat) (asg body : ICode)
  | dead
structure Hp (S : Type → Type) where
  n : Nat
  c : S (Blk S)
section
variable {S : Type → Type} [Rep S]
def Hp.get (h : Hp S) (b : Nat) : Option (Blk S) := Rep.get h.c b
def Hp.put (h : Hp S) (b : Nat) (o : Blk S) : Hp S := ⟨h.n, Rep.set h.c b o⟩
def Hp.push (h : Hp S) (o : Blk S) : Hp S := ⟨h.n + 1, Rep.set h.c h.n o⟩
def Hp.kill : List Nat → Hp S → Hp S
  | [], h => h
  | b :: bs, h => Hp.kill bs (h.put b .dead)
def ev (τ : S V) : Opd → V
  | .t n => (Rep.get τ n).getD .undef
  | .c v => v
def rdG (g : Nat → Option (Blk S)) (b o n : Nat) : Option (List V) :=
  match g b with
  | some (.arr cs _) => if o + n ≤ cs.length then some ((cs.drop o).take n) else none
  | _ => none
def splice (cs : List V) (o : Nat) (vs : List V) : List V := cs.take o ++ vs ++ cs.drop (o + vs.length)
def Hp.wr (h : Hp S) (b o : Nat) (vs : List V) : Option (Hp S) :=
  match h.get b with
  | some (.arr cs a) =>
    if a.ro || a.child || !(vs.all V.scalar) then none
    else if o + vs.length ≤ cs.length then
      if o < a.sl then some ((Hp.kill a.anc h).put b (.arr (splice cs o vs) {}))
      else some (h.put b (.arr (splice cs o vs) a))
    else none
  | _ => none
def binI (op : BinOp) (k : IntKind) (a : Int) (j : IntKind) (b : Int) : Option V :=
  match op with
  | .shl => if b < 0 then none else some (.int k (k.wrap (a * 2 ^ (min b.toNat k.bits))))
  | .shr => if b < 0 then none else some (.int k (a.fdiv (2 ^ (min b.toNat k.bits))))
  | op =>
    if ikEq k j then
      match op with
      | .add => some (.int k (k.wrap (a + b)))
      | .sub => some (.int k (k.wrap (a - b)))
      | .mul => some (.int k (k.wrap (a * b)))
      | .quo => if b = 0 then none else some (.int k (k.wrap (a.tdiv b)))
      | .rem => if b = 0 then none else some (.int k (a.tmod b))
      | .and => some (.int k (k.wrap (BitVec.ofInt k.bits a &&& BitVec.ofInt k.bits b).toNat))
      | .or => some (.int k (k.wrap (BitVec.ofInt k.bits a ||| BitVec.ofInt k.bits b).toNat))
      | .xor => some (.int k (k.wrap (BitVec.ofInt k.bits a ^^^ BitVec.ofInt k.bits b).toNat))
      | .andNot => some (.int k (k.wrap (BitVec.ofInt k.bits a &&& ~~~(BitVec.ofInt k.bits b)).toNat))
      | .eql => some (.bool (a == b))
      | .neq => some (.bool (a != b))
      | .lss => some (.bool (decide (a < b)))
      | .leq => some (.bool (decide (a ≤ b)))
      | .gtr => some (.bool (decide (a > b)))
      | .geq => some (.bool (decide (a ≥ b)))
      | _ => none
    else none
def strLt : List UInt8 → List UInt8 → Bool
  | _, [] => false
  | [], _ :: _ => true
  | a :: x, b :: y => Nat.blt a.toNat b.toNat || (Nat.beq a.toNat b.toNat && strLt x y)
def binS (op : BinOp) (a b : List UInt8) : Option V :=
  match op with
  | .add => if a.length + b.length ≤ 140737488351232 then some (.str (a ++ b)) else none
  | .eql => some (.bool (bytesEq a b))
  | .neq => some (.bool (!bytesEq a b))
  | .lss => some (.bool (strLt a b))
  | .leq => some (.bool (strLt a b || bytesEq a b))
  | .gtr => some (.bool (!(strLt a b || bytesEq a b)))
  | .geq => some (.bool (!strLt a b))
  | _ => none
def eqs : CK → V → V → Option Bool
  | .i, .int k a, .int j b => if ikEq k j then some (a == b) else none
  | .s, .str a, .str b => some (bytesEq a b)
  | .b, .bool a, .bool b => some (a == b)
  | _, _, _ => none
def eqss : List CK → List V → List V → Option Bool
  | [], [], [] => some true
  | c :: cs, a :: x, b :: y => match eqs c a b, eqss cs x y with
    | some p, some q => some (p && q)
    | _, _ => none
  | _, _, _ => none
def eqk : EqK → V → V → Option Bool
  | .sc c, a, b => eqs c a b
  | .ag ks, .agg x, .agg y => eqss ks x y
  | .pt, .nilptr, .nilptr => some true
  | .pt, .nilptr, .ptr _ _ => some false
  | .pt, .ptr _ _, .nilptr => some false
  | .sl, .nilslice, .nilslice => some true
  | .sl, .nilslice, .slice _ _ _ _ _ => some false
  | .sl, .slice _ _ _ _ _, .nilslice => some false
  | .mp, .nilmap, .nilmap => some true
  | .mp, .nilmap, .map _ => some false
  | .mp, .map _, .nilmap => some false
  | .fn, .nilfunc, .nilfunc => some true
  | .fn, .nilfunc, .func _ _ _ => some false
  | .fn, .func _ _ _, .nilfunc => some false
  | _, _, _ => none
def find (q : EqK) (k : V) : List (V × V × Nat) → Nat → Option (Option (Nat × V × Nat))
  | [], _ => some none
  | (k', v, n) :: es, i => match eqk q k k' with
    | some true => some (some (i, v, n))
    | some false => find q k es (i + 1)
    | none => none
def findK (q : EqK) (k : V) (es : List (V × V × Nat)) : Option (Option (Nat × V × Nat)) :=
  if (eqk q k k).isSome then find q k es 0 else none
def setVal (v : V) : List (V × V × Nat) → Nat → List (V × V × Nat)
  | [], _ => []
  | (k', _, n) :: es, 0 => (k', v, n) :: es
  | e :: es, i + 1 => e :: setVal v es i
def findBorn (n : Int) : List (V × V × Nat) → Nat → Option Nat
  | [], _ => none
  | (_, _, m) :: es, i => if (m : Int) = n then some i else findBorn n es (i + 1)
def fill (cells : List V) : List (Nat × Nat × V) → Option (List V)
  | [] => some cells
  | (off, sz, v) :: r =>
    if Nat.beq v.cells.length sz && Nat.ble (off + sz) cells.length then fill (splice cells off v.cells) r else none
def lo? (ρ : Opd → V) (m : Nat) (d : Nat) : Option Opd → Option Nat
  | none => some d
  | some x => match ρ x with
    | .int _ i => if 0 ≤ i ∧ i ≤ m then some i.toNat else none
    | _ => none
def rep (n : Nat) (zero : List V) : List V := (List.replicate n zero).flatten
def mini (k : IntKind) (a : Int) : List V → Option Int
  | [] => some a
  | .int j b :: r => if ikEq k j then mini k (if b < a then b else a) r else none
  | _ => none
def maxi (k : IntKind) (a : Int) : List V → Option Int
  | [] => some a
  | .int j b :: r => if ikEq k j then maxi k (if b > a then b else a) r else none
  | _ => none
def u8s (s : List UInt8) : List V := s.map fun b => .int .u8 b.toNat
def srcCells (h : Hp S) (e : Nat) : V → Option (List V × Nat)
  | .nilslice => some ([], 0)
  | .slice b o len _ e' => if Nat.beq e e' then (if Nat.beq len 0 then some ([], 0) else (rdG h.get b o (len * e)).map (·, len)) else none
  | .str s => if Nat.beq e 1 then some (u8s s, s.length) else none
  | _ => none
def limit : Nat := 35184372088832
def appendF (h : Hp S) (e bytes : Nat) (s x : V) : Option (V × Hp S) :=
  match srcCells h e x with
  | none => none
  | some (xs, n) =>
    match s with
    | .nilslice =>
      if Nat.beq n 0 then some (.nilslice, h)
      else if Nat.ble (n * bytes) limit then some (.slice h.n 0 n none e, h.push (.arr xs {})) else none
    | .slice b o len cap e' =>
      if Nat.beq e e' then
        if Nat.beq n 0 then some (.slice b o len cap e', h)
        else if Nat.ble ((len + n) * bytes) limit then
          match cap with
          | some c =>
            if Nat.ble (len + n) c then (h.wr b (o + len * e) xs).map (.slice b o (len + n) (some c) e, ·)
            else (srcCells h e s).map fun old => (.slice h.n 0 (len + n) none e, h.push (.arr (old.1 ++ xs) {}))
          | none =>
            match h.get b with
            | some (.arr cs a) =>
              if a.ro || a.child || !Nat.beq (o + len * e) cs.length then none
              else some (.slice h.n 0 (len + n) none e, (Hp.kill (b :: a.anc) h).push (.arr (cs.drop o ++ xs) {}))
            | _ => none
        else none
      else none
    | _ => none
def copyF (h : Hp S) (e : Nat) (d x : V) : Option (V × Hp S) :=
  match srcCells h e x with
  | none => none
  | some (xs, n) =>
    match d with
    | .nilslice => some (.int .i64 0, h)
    | .slice b o len _ e' =>
      if Nat.beq e e' then
        if Nat.beq (min n len) 0 then some (.int .i64 0, h)
        else (h.wr b o (xs.take (min n len * e))).map (.int .i64 (min n len : Nat), ·)
      else none
    | _ => none
def rdAgg (g : Nat → Option (Blk S)) (agg : Bool) (b o n : Nat) : Option V :=
  if agg then (rdG g b o n).map .agg
  else match g b with
    | some (.arr cs _) => cs[o]?
    | _ => none
def pickAgg (agg : Bool) (cs : List V) (off sz : Nat) : Option V :=
  if agg then (if off + sz ≤ cs.length then some (.agg ((cs.drop off).take sz)) else none) else cs[off]?
def entries (g : Nat → Option (Blk S)) : V → Option (List (V × V × Nat))
  | .nilmap => some []
  | .map b => match g b with
    | some (.map es _) => some es
    | _ => none
  | _ => none
def lkpF (g : Nat → Option (Blk S)) (q : EqK) (zero : V) (ok : Bool) (m k : V) : Option V :=
  match entries g m with
  | none => none
  | some es => match findK q k es with
    | none => none
    | some (some (_, v, _)) => some (if ok then .tup [v, .bool true] else v)
    | some none => some (if ok then .tup [zero, .bool false] else zero)
def mapupF (h : Hp S) (q : EqK) (m k v : V) : Option (V × Hp S) :=
  match m with
  | .map b => match h.get b with
    | some (.map es clk) => match findK q k es with
      | none => none
      | some (some (i, _, _)) => some (.undef, h.put b (.map (setVal v es i) clk))
      | some none => some (.undef, h.put b (.map (es ++ [(k, v, clk)]) (clk + 1)))
    | _ => none
  | _ => none
def clrF (h : Hp S) (m : V) : Option (V × Hp S) :=
  match m with
  | .map b => match h.get b with
    | some (.map _ clk) => some (.tup [], h.put b (.map [] clk))
    | _ => none
  | _ => none
def mentF (h : Hp S) (q : EqK) (zero m k : V) : Option (V × Hp S) :=
  match m with
  | .map b => match h.get b with
    | some (.map es clk) => match findK q k es with
      | none => none
      | some (some (_, v, n)) => some (.tup [v, .int .i64 n], h)
      | some none => some (.tup [zero, .int .i64 clk], h.put b (.map (es ++ [(k, zero, clk)]) (clk + 1)))
    | _ => none
  | _ => none
def mstF (h : Hp S) (m s v : V) : Option (V × Hp S) :=
  match m, s with
  | .map b, .int _ n => match h.get b with
    | some (.map es clk) => match findBorn n es 0 with
      | some i => some (.undef, h.put b (.map (setVal v es i) clk))
      | none => none
    | _ => none
  | _, _ => none
def nxtF (h : Hp S) : V → Option (V × Hp S)
  | .ptr b 0 => match h.get b with
    | some (.iter s pos) =>
      if pos < s.length then
        some (.tup [.bool true, .int .i64 pos, .int .i32 (Utf8.decode ⟨s.toArray⟩ pos).1], h.put b (.iter s (pos + (Utf8.decode ⟨s.toArray⟩ pos).2)))
      else some (.tup [.bool false], h)
    | _ => none
  | _ => none
def bounds (ρ : Opd → V) (n : Nat) (lo hi mx : Option Opd) : Option (Nat × Nat × Nat) :=
  match mx, hi with
  | some _, none => none
  | _, _ => match lo? ρ n n mx with
    | none => none
    | some m => match lo? ρ m (if mx.isSome then m else n) hi with
      | none => none
      | some hh => match lo? ρ hh 0 lo with
        | none => none
        | some l => some (l, hh, m)
def slcF (e : Nat) (x : V) (ρ : Opd → V) (lo hi mx : Option Opd) : Option V :=
  match x with
  | .slice b o len cap e' =>
    if Nat.beq e e' then
      match bounds ρ len lo hi mx with
      | none => none
      | some (l, hh, m) => match mx with
        | none => match cap with
          | none => some (.slice b (o + l * e) (hh - l) none e)
          | some c => some (.slice b (if Nat.beq c l then o else o + l * e) (hh - l) (some (c - l)) e)
        | some _ => some (.slice b (if Nat.beq m l then o else o + l * e) (hh - l) (some (m - l)) e)
    else none
  | .nilslice => match bounds ρ 0 lo hi mx with
    | none => none
    | some _ => some .nilslice
  | _ => none
def slcaF (g : Nat → Option (Blk S)) (len e : Nat) (x : V) (ρ : Opd → V) (lo hi mx : Option Opd) : Option V :=
  match x with
  | .ptr b o => match g b with
    | some (.arr cs _) =>
      if o + len * e ≤ cs.length then
        match bounds ρ len lo hi mx with
        | none => none
        | some (l, hh, m) => some (.slice b (if Nat.beq m l then o else o + l * e) (hh - l) (some (m - l)) e)
      else none
    | _ => none
  | _ => none
def slcsF (x : V) (ρ : Opd → V) (lo hi : Option Opd) : Option V :=
  match x with
  | .str s => match bounds ρ s.length lo hi none with
    | none => none
    | some (l, hh, _) => some (.str ((s.take hh).drop l))
  | _ => none
inductive Kind where
  | pure | read | make | heavy
  deriving DecidableEq
def kindOf : IOp → Kind
  | .ld _ _ _ | .lkp _ _ _ _ _ | .lenm _ | .slca _ _ _ _ _ _ => .read
  | .box _ | .alloc _ | .bldS _ _ _ _ | .mksl _ _ _ _ _ | .mkmap | .rng _ => .make
  | .st _ _ _ | .mapup _ _ _ _ | .ment _ _ _ _ | .mst _ _ _ | .app _ _ _ _ | .cpy _ _ _ | .clr _ | .nxt _ | .call _ _ => .heavy
  | _ => .pure
def puO (o : IOp) (ρ : Opd → V) : Option V :=
  match o with
  | .mv x => some (ρ x)
  | .pick c a b => match ρ c with
    | .bool true => some (ρ a)
    | .bool false => some (ρ b)
    | _ => none
  | .mkfn f first caps => some (.func f (first.map ρ) (caps.map ρ))
  | .mkif t x => some (.iface t (ρ x))
  | .ext x i => match ρ x with
    | .tup vs => vs[i]?
    | _ => none
  | .nilck x => match ρ x with
    | .ptr b o => some (.ptr b o)
    | .func f a c => some (.func f a c)
    | .yield l => some (.yield l)
    | _ => none
  | .fa x off => match ρ x with
    | .ptr b o => some (.ptr b (o + off))
    | _ => none
  | .fld agg off sz x => match ρ x with
    | .agg cs => pickAgg agg cs off sz
    | _ => none
  | .ia e x i => match ρ x, ρ i with
    | .slice b o len _ e', .int _ n => if Nat.beq e e' then (if 0 ≤ n ∧ n < len then some (.ptr b (o + n.toNat * e)) else none) else none
    | _, _ => none
  | .iaa len e x i => match ρ x, ρ i with
    | .ptr b o, .int _ n => if 0 ≤ n ∧ n < len then some (.ptr b (o + n.toNat * e)) else none
    | _, _ => none
  | .ix len e agg x i => match ρ x, ρ i with
    | .agg cs, .int _ n => if 0 ≤ n ∧ n < len then pickAgg agg cs (n.toNat * e) e else none
    | _, _ => none
  | .ixs x i => match ρ x, ρ i with
    | .str s, .int _ n => if 0 ≤ n then (s[n.toNat]?).map fun b => .int .u8 b.toNat else none
    | _, _ => none
  | .bin op x y => match ρ x, ρ y with
    | .int k a, .int j b => binI op k a j b
    | .str a, .str b => binS op a b
    | _, _ => none
  | .eqv q neg x y => (eqk q (ρ x) (ρ y)).map fun b => .bool (if neg then !b else b)
  | .un op x => match op, ρ x with
    | .not, .bool b => some (.bool !b)
    | .neg, .int k n => some (.int k (k.wrap (0 - n)))
    | _, _ => none
  | .conv k x => match ρ x with
    | .int _ n => some (.int k (k.wrap n))
    | _ => none
  | .len str x => match str, ρ x with
    | false, .slice _ _ n _ _ => some (.int .i64 n)
    | false, .nilslice => some (.int .i64 0)
    | true, .str s => some (.int .i64 s.length)
    | _, _ => none
  | .lenc n => some (.int .i64 n)
  | .mn x ys => match ρ x with
    | .int k a => (mini k a (ys.map ρ)).map fun r => .int k r
    | _ => none
  | .mx x ys => match ρ x with
    | .int k a => (maxi k a (ys.map ρ)).map fun r => .int k r
    | _ => none
  | .slc e x lo hi mx => slcF e (ρ x) ρ lo hi mx
  | .slcs x lo hi => slcsF (ρ x) ρ lo hi
  | .bld zero parts => (fill zero (parts.map fun p => (p.1, p.2.1, ρ p.2.2))).map .agg
  | _ => none
def rdO (o : IOp) (ρ : Opd → V) (g : Nat → Option (Blk S)) : Option V :=
  match o with
  | .ld agg n a => match ρ a with
    | .ptr b o => rdAgg g agg b o n
    | _ => none
  | .lenm x => (entries g (ρ x)).map fun es => .int .i64 es.length
  | .slca len e x lo hi mx => slcaF g len e (ρ x) ρ lo hi mx
  | .lkp q zero ok m k => lkpF g q zero ok (ρ m) (ρ k)
  | _ => none
def mkO (o : IOp) (ρ : Opd → V) : Option ((Nat → V) × Blk S) :=
  match o with
  | .box x => if (ρ x).cells.all V.scalar then some (fun b => .ptr b 0, .arr (ρ x).cells {}) else none
  | .alloc zero => if zero.cells.all V.scalar then some (fun b => .ptr b 0, .arr zero.cells {}) else none
  | .bldS e len zero parts => match fill (rep len zero) (parts.map fun p => (p.1, p.2.1, ρ p.2.2)) with
    | some cs => if cs.all V.scalar then some (fun b => .slice b 0 len (some len) e, .arr cs {}) else none
    | none => none
  | .mksl e bytes zero l c => match ρ l, ρ c with
    | .int _ a, .int _ b =>
      if 0 ≤ a ∧ a ≤ b ∧ b * bytes ≤ limit ∧ b ≤ limit ∧ zero.all V.scalar then some (fun i => .slice i 0 a.toNat (some b.toNat) e, .arr (rep b.toNat zero) {}) else none
    | _, _ => none
  | .mkmap => some (fun b => .map b, .map [] 0)
  | .rng x => match ρ x with
    | .str s => some (fun b => .ptr b 0, .iter s 0)
    | _ => none
  | _ => none
def hvO (o : IOp) (ρ : Opd → V) (h : Hp S) : Option (V × Hp S) :=
  match o with
  | .st n a v => match ρ a with
    | .ptr b o => if Nat.beq (ρ v).cells.length n then (h.wr b o (ρ v).cells).map (.undef, ·) else none
    | _ => none
  | .mapup q m k v => mapupF h q (ρ m) (ρ k) (ρ v)
  | .ment q zero m k => mentF h q zero (ρ m) (ρ k)
  | .mst m s v => mstF h (ρ m) (ρ s) (ρ v)
  | .app e bytes s x => appendF h e bytes (ρ s) (ρ x)
  | .cpy e d s => copyF h e (ρ d) (ρ s)
  | .clr m => clrF h (ρ m)
  | .nxt x => nxtF h (ρ x)
  | _ => none
def iop (o : IOp) (ρ : Opd → V) (h : Hp S) : Option (V × Hp S) :=
  match kindOf o with
  | .pure => (puO o ρ).map (·, h)
  | .read => (rdO o ρ h.get).map (·, h)
  | .make => (mkO o ρ).map fun p => (p.1 h.n, h.push p.2)
  | .heavy => hvO o ρ h
structure Rec (S : Type → Type) where
  call : Nat → List V → Hp S → Option (V × Hp S)
  code : Option Nat → ICode → S V → Hp S → Option (X × S V × Hp S)
def setAll (τ : S V) : List Nat → List V → Option (S V)
  | [], [] => some τ
  | p :: ps, v :: vs => setAll (Rep.set τ p v) ps vs
  | _, _ => none
def yieldF (r : Rec S) (l : Nat) (args : List V) (h : Hp S) : Option (V × Hp S) :=
  match h.get l with
  | some (.loop .ready _ τ ps asg body) =>
    (setAll τ ps args).bind fun τ0 =>
    match r.code (some l) asg τ0 h with
    | some (.normal, τ1, h1) =>
      match h1.get l with
      | some (.loop .ready p τ ps asg bd) =>
        match r.code (some l) body τ1 (h1.put l (.loop .busy p τ ps asg bd)) with
        | some (x, _, h2) =>
          match h2.get l with
          | some (.loop _ _ τ ps asg body) =>
            match x with
            | .normal => some (.bool true, h2.put l (.loop .ready .normal τ ps asg body))
            | x => some (.bool false, h2.put l (.loop .done x τ ps asg body))
          | _ => none
        | none => none
      | _ => none
    | _ => none
  | _ => none
def callV (r : Rec S) (f : V) (args : List V) (h : Hp S) : Option (V × Hp S) :=
  match f with
  | .func f first caps => r.call f (first ++ args ++ caps) h
  | .yield l => yieldF r l args h
  | _ => none
def opF (r : Rec S) (o : IOp) (ρ : Opd → V) (h : Hp S) : Option (V × Hp S) :=
  match o with
  | .call f args => callV r (ρ f) (args.map ρ) h
  | o => iop o ρ h
def wanted (g : Option (Nat × Bool)) (τ : S V) : Bool :=
  match g with
  | none => true
  | some (j, want) => match Rep.get τ j with
    | some (.bool b) => b == want
    | _ => false
def putD (τ : S V) : Option Nat → V → S V
  | some d, v => Rep.set τ d v
  | none, _ => τ
def stepO (r : Rec S) (o : IOper) (τ : S V) (h : Hp S) : Option (S V × Hp S) :=
  if wanted o.guard τ then (opF r o.op (ev τ) h).map fun p => (putD τ o.dst p.1, p.2)
  else some (putD τ o.dst .undef, h)
def opsF (r : Rec S) : List IOper → S V → Hp S → Option (S V × Hp S)
  | [], τ, h => some (τ, h)
  | o :: os, τ, h => match stepO r o τ h with
    | some (τ', h') => opsF r os τ' h'
    | none => none
def Hp.lget (h : Hp S) (b : Nat) : Option (Blk S) := bif Nat.ble h.n b then none else h.get b
def reOk (o : IOper) (τ : S V) (h : Hp S) : Bool :=
  !wanted o.guard τ || match o.dst, rdO o.op (ev τ) h.lget with
    | some d, some v => V.same v (ev τ (.t d))
    | _, _ => false
def preOf (k : Nat) : List (Nat × Hp S) → Option (Hp S)
  | [] => none
  | (j, h) :: r => if Nat.beq j k then some h else preOf k r
def drawF (r : Rec S) : List DOper → Nat → List (Nat × Hp S) → S V → Hp S → Option (S V × Hp S)
  | [], _, _, τ, h => some (τ, h)
  | d :: ds, i, pre, τ, h => match stepO r d.o τ h with
    | some (τ', h') =>
      if d.rechk.all (fun o => reOk o τ' h') && d.back.all (fun k => match preOf k pre with | some hk => reOk d.o τ' hk | none => false) then
        drawF r ds (i + 1) (if d.heavy then (i, h) :: pre else pre) τ' h'
      else none
    | none => none
def Hp.isLoop (h : Hp S) : Option Nat → Bool
  | none => true
  | some l => match h.get l with
    | some (.loop _ _ _ _ _ _) => true
    | _ => false
def codeF (r : Rec S) (cur : Option Nat) : ICode → S V → Hp S → Option (X × S V × Hp S)
  | .skip, τ, h => some (.normal, τ, h)
  | .region ops, τ, h => match opsF r ops τ h with
    | some (τ', h') => some (.normal, τ', h')
    | none => none
  | .draw ops, τ, h => match drawF r ops 0 [] τ h with
    | some (τ', h') => some (.normal, τ', h')
    | none => none
  | .seq a b, τ, h => match codeF r cur a τ h with
    | some (.normal, τ', h') => codeF r cur b τ' h'
    | x => x
  | .cond c a b, τ, h => match ev τ c with
    | .bool true => codeF r cur a τ h
    | .bool false => codeF r cur b τ h
    | _ => none
  | .block id b, τ, h => match codeF r cur b τ h with
    | some (.exit id', τ', h') => if Nat.beq id' id then some (.normal, τ', h') else some (.exit id', τ', h')
    | x => x
  | .loop b, τ, h => match codeF r cur b τ h with
    | some (.normal, τ', h') => r.code cur (.loop b) τ' h'
    | x => x
  | .scope b, τ, h => codeF r cur b τ h
  | .rangef f ps asg body, τ, h =>
    if h.isLoop cur then
      match callV r (ev τ f) [.yield h.n] (h.push (.loop .ready .normal τ ps asg body)) with
      | some (_, h2) =>
        match h2.get h.n with
        | some (.loop st p τ' ps' asg' body') =>
          match st with
          | .busy => none
          | _ => some (p, τ, h2.put h.n (.loop .exhausted p τ' ps' asg' body'))
        | _ => none
      | none => none
    else none
  | .exit id, τ, h => some (.exit id, τ, h)
  | .ret, τ, h => some (.ret, τ, h)
def initT : List V → Nat → S V → S V
  | [], _, τ => τ
  | v :: vs, i, τ => initT vs (i + 1) (Rep.set τ i v)
def resF (τ : S V) (h : Hp S) : List IRes → Option (List V)
  | [] => some []
  | .tmp t :: rs => (resF τ h rs).map (ev τ (.t t) :: ·)
  | .cell a agg n :: rs => match ev τ (.t a) with
    | .ptr b o => (rdAgg h.get agg b o n).bind fun v => (resF τ h rs).map (v :: ·)
    | _ => none
def packR : List V → V
  | [] => .undef
  | [v] => v
  | vs => .tup vs
def callF (ft : Nat → Option IFun) (r : Rec S) (f : Nat) (args : List V) (h : Hp S) : Option (V × Hp S) :=
  match ft f with
  | none => none
  | some fn => if Nat.ble args.length fn.nt then
      match codeF r none fn.code (initT args 0 Rep.emp) h with
      | some (.normal, τ, h') => (resF τ h' fn.res).map (packR ·, h')
      | some (.ret, τ, h') => (resF τ h' fn.res).map (packR ·, h')
      | _ => none
    else none
structure FT (S : Type → Type) where
  fn : Nat → Option IFun
  orc : Nat → List V → Hp S → Option (V × Hp S) := fun _ _ _ => none
instance : Coe (Nat → Option IFun) (FT S) := ⟨fun f => ⟨f, fun _ _ _ => none⟩⟩
def callO (ft : FT S) (r : Rec S) (f : Nat) (args : List V) (h : Hp S) : Option (V × Hp S) :=
  match ft.orc f args h with
  | some x => some x
  | none => callF ft.fn r f args h
def recN (ft : FT S) : Nat → Rec S
  | 0 => ⟨fun _ _ _ => none, fun _ _ _ _ => none⟩
  | n + 1 => ⟨callO ft (recN ft n), codeF (recN ft n)⟩
end
end Go.Ax
end
section
set_option linter.unusedSectionVars false
namespace Go.Ax
variable [Globs]
open Go.RowKit
def cvs (f : Value → Option V) : List Value → Option (List V)
  | [] => some []
  | v :: vs => match f v, cvs f vs with
    | some a, some b => some (a :: b)
    | _, _ => none
def cv1 : Value → Option V
  | .bool b => some (.bool b)
  | .int k n => some (.int k n)
  | .string s => some (.str s.data.toList)
  | .pointer none => some .nilptr
  | .slice none 0 0 => some .nilslice
  | .map none => some .nilmap
  | .nilFunc => some .nilfunc
  | .nilIface => some .niliface
  | _ => none
def cv : Value → Option V
  | .agg cs => (cvs cv1 cs.toList).map .agg
  | v => cv1 v
def opd : Operand → Option Opd
  | .tmp t => some (.t t)
  | .const v => (cv v).map .c
  | .func f => some (.c (.func f [] []))
  | .global g => if Globs.gl.contains g then some (.c (.ptr g 0)) else none
def opds : List Operand → Option (List Opd)
  | [] => some []
  | x :: xs => match opd x, opds xs with
    | some a, some b => some (a :: b)
    | _, _ => none
def oopd : Option Operand → Option (Option Opd)
  | none => some none
  | some x => (opd x).map some
def isAggD : TypeDesc → Bool
  | .struct _ | .array _ _ => true
  | _ => false
def isIntD : TypeDesc → Bool
  | .int _ => true
  | _ => false
def aggOf (P : Program) (t : TypeId) : Option (Bool × Nat) :=
  match P.underlying t, P.info? t with
  | some d, some i => some (isAggD d, i.size)
  | _, _ => none
def zeroOf (P : Program) (t : TypeId) : Option V :=
  match P.info? t with
  | some i => i.zero.bind cv
  | none => none
def plainTy (P : Program) : Nat → TypeId → Option (List CK)
  | 0, _ => none
  | d + 1, t =>
    match P.underlying t, P.info? t with
    | some (.int _), some i => if i.size = 1 then some [.i] else none
    | some .bool, some i => if i.size = 1 then some [.b] else none
    | some .string, some i => if i.size = 1 then some [.s] else none
    | some (.struct fs), some i =>
      match plainFs P (plainTy P d) fs.toList 0 with
      | some ks => if !P.stoodInHeld t && ks.length = i.size then some ks else none
      | none => none
    | some (.array n e), some i =>
      match plainTy P d e with
      | some ks => if n * ks.length = i.size then some (List.replicate n ks).flatten else none
      | none => none
    | _, _ => none
where
  plainFs (P : Program) (f : TypeId → Option (List CK)) : List Field → Nat → Option (List CK)
    | [], _ => some []
    | x :: xs, o =>
      match f x.type with
      | none => none
      | some ks => match plainFs P f xs (o + ks.length) with
        | none => none
        | some r => if x.name ≠ "_" && x.offset = o then some (ks ++ r) else none
def bparts (P : Program) (fs : Array Field) : List (Nat × Operand) → Option (List (Nat × Nat × Opd))
  | [] => some []
  | (i, x) :: r => match fs[i]? with
    | none => none
    | some f => match P.info? f.type, opd x, bparts P fs r with
      | some j, some y, some l => some ((f.offset, j.size, y) :: l)
      | _, _, _ => none
def aparts (size : Nat) : List (Nat × Operand) → Option (List (Nat × Nat × Opd))
  | [] => some []
  | (i, x) :: r => match opd x, aparts size r with
    | some y, some l => some ((i * size, size, y) :: l)
    | _, _ => none
def compBuild (P : Program) (t : TypeId) (parts : List (Nat × Operand)) : Option IOp :=
  match zeroOf P t, P.underlying t with
  | some z, some (.struct fs) => if fs.toList.all fun f => (P.info? f.type).isSome then (bparts P fs parts).map (.bld z.cells ·) else none
  | some z, some (.array _ e) => match P.info? e with
    | some j => (aparts j.size parts).map (.bld z.cells ·)
    | none => none
  | _, _ => none
def compBuildS (P : Program) (t : TypeId) (len : Nat) (parts : List (Nat × Operand)) : Option IOp :=
  match P.underlying t with
  | some (.slice e) => match P.info? e, zeroOf P e, aparts ((P.info? e).map (·.size) |>.getD 0) parts with
    | some j, some z, some l =>
      if len * j.size ≤ 2 ^ 24 && z.cells.length = j.size && j.size ≠ 0 then some (.bldS j.size len z.cells l) else none
    | _, _, _ => none
  | _ => none
def eqOf (P : Program) (t : TypeId) : Option EqK :=
  match P.underlying t with
  | some .bool => some (.sc .b)
  | some (.int _) => some (.sc .i)
  | some .string => some (.sc .s)
  | some (.pointer _) => some .pt
  | some (.slice _) => some .sl
  | some (.map _ _) => some .mp
  | some (.func _ _ _) => some .fn
  | some (.struct _) | some (.array _ _) => if P.eqGuardType P.depth t then none else (plainTy P 100 t).map .ag
  | _ => none
def isEq : BinOp → Bool
  | .eql | .neq => true
  | _ => false
def compBin (P : Program) (op : BinOp) (t : TypeId) (x y : Opd) : Option IOp :=
  if isEq op then
    match P.underlying t with
    | some (.int _) | some .string => some (.bin op x y)
    | _ => (eqOf P t).map fun q => .eqv q (op matches .neq) x y
  else some (.bin op x y)
def mapOf (P : Program) (t : TypeId) : Option (EqK × V) :=
  match P.underlying t with
  | some (.map k e) => match zeroOf P e, eqOf P k with
    | some z, some (.sc c) => some (.sc c, z)
    | some z, some (.ag ks) => some (.ag ks, z)
    | _, _ => none
  | _ => none
def compCallB (P : Program) (b : Builtin) (ats : Array TypeId) (args : List Opd) : Option IOp :=
  match b, args with
  | .len, [x] => match ats[0]?.bind P.underlying with
    | some .string => some (.len true x)
    | some (.slice _) => some (.len false x)
    | some (.array n _) => some (.lenc n)
    | some (.map _ _) => some (.lenm x)
    | _ => none
  | .min, x :: ys => some (.mn x ys)
  | .max, x :: ys => some (.mx x ys)
  | .append, [s, x] => match ats[0]?.bind P.underlying, ats[1]?.bind P.underlying with
    | some (.slice e), some u => match P.info? e, (zeroOf P e) with
      | some j, some z => if !isIntD u && j.size ≠ 0 && 0 < j.bytes && z.cells.length = j.size then some (.app j.size j.bytes s x) else none
      | _, _ => none
    | _, _ => none
  | .copy, [d, s] => match ats[0]?.bind P.underlying with
    | some (.slice e) => match P.info? e with
      | some j => if j.size ≠ 0 then some (.cpy j.size d s) else none
      | none => none
    | _ => none
  | .clear, [m] => match ats[0]?.bind P.underlying with
    | some (.map _ _) => some (.clr m)
    | _ => none
  | _, _ => none
def compCall (P : Program) (c : Call) : Option IOp :=
  match opds c.args.toList with
  | none => none
  | some args => match c.callee with
    | .value f => (opd f).map (.call · args)
    | .builtin b => compCallB P b c.argTypes args
    | .invoke _ _ => none
def fieldOf (P : Program) (s : TypeId) (f : Nat) : Option Field :=
  match P.underlying s with
  | some (.struct fs) => fs[f]?
  | _ => none
def compSlice (P : Program) (t : TypeId) (x : Opd) (lo hi mx : Option Opd) : Option IOp :=
  match P.underlying t with
  | some (.slice e) => match P.info? e with
    | some j => some (.slc j.size x lo hi mx)
    | none => none
  | some .string => if mx.isNone then some (.slcs x lo hi) else none
  | some (.array n e) => match P.info? e with
    | some j => some (.slca n j.size x lo hi mx)
    | none => none
  | _ => none
def compIndex (P : Program) (addr : Bool) (t : TypeId) (x i : Opd) : Option IOp :=
  match P.underlying t with
  | some (.slice e) => match P.info? e with
    | some j => if addr then some (.ia j.size x i) else none
    | none => none
  | some (.array n e) => match P.info? e, P.underlying e with
    | some j, some d => some (if addr then .iaa n j.size x i else .ix n j.size (isAggD d) x i)
    | _, _ => none
  | some .string => if addr then none else some (.ixs x i)
  | _ => none
def compOp (P : Program) (o : Op) : Option IOp :=
  match o with
  | .move x | .assign x => (opd x).map .mv
  | .pick c a b => match opd c, opd a, opd b with
    | some c, some a, some b => some (.pick c a b)
    | _, _, _ => none
  | .alloc t => (zeroOf P t).map .alloc
  | .box _ x => (opd x).map .box
  | .build t ps => compBuild P t ps.toList
  | .buildSlice t n ps => compBuildS P t n ps.toList
  | .load t a => match aggOf P t, opd a with
    | some (g, n), some a => some (.ld g n a)
    | _, _ => none
  | .store t a v => match aggOf P t, opd a, opd v with
    | some (_, n), some a, some v => if n ≠ 0 then some (.st n a v) else none
    | _, _, _ => none
  | .nilCheck x => (opd x).map .nilck
  | .binOp op t x y _ => match opd x, opd y with
    | some x, some y => compBin P op t x y
    | _, _ => none
  | .unOp op _ x => (opd x).map (.un op)
  | .convert s d x => match P.underlying s, P.underlying d, opd x with
    | some (.int _), some (.int k), some x => some (.conv k x)
    | _, _, _ => none
  | .makeInterface t x => match P.underlying t with
    | some (.interface _) | none => none
    | _ => (opd x).map (.mkif t)
  | .makeFunc (.func f) a c => match opds a.toList, opds c.toList with
    | some a, some c => some (.mkfn f a c)
    | _, _ => none
  | .makeMap _ none => some .mkmap
  | .makeSlice t l c => match P.underlying t, opd l, opd c with
    | some (.slice e), some l, some c => match P.info? e, zeroOf P e with
      | some j, some z => if z.cells.length = j.size && j.size ≠ 0 then some (.mksl j.size j.bytes z.cells l c) else none
      | _, _ => none
    | _, _, _ => none
  | .slice t x lo hi mx => match opd x, oopd lo, oopd hi, oopd mx with
    | some x, some lo, some hi, some mx => compSlice P t x lo hi mx
    | _, _, _, _ => none
  | .fieldAddr s x f => match fieldOf P s f, opd x with
    | some f, some x => match P.info? f.type with
      | some j => if j.size ≠ 0 then some (.fa x f.offset) else none
      | none => none
    | _, _ => none
  | .field s x f => match fieldOf P s f, opd x with
    | some f, some x => match aggOf P f.type with
      | some (g, n) => some (.fld g f.offset n x)
      | none => none
    | _, _ => none
  | .indexAddr t x i => match opd x, opd i with
    | some x, some i => compIndex P true t x i
    | _, _ => none
  | .index t x i => match opd x, opd i with
    | some x, some i => compIndex P false t x i
    | _, _ => none
  | .lookup t m k ok => match mapOf P t, opd m, opd k with
    | some (q, z), some m, some k => some (.lkp q z ok m k)
    | _, _, _ => none
  | .mapUpdate t m k v | .insert t m k v => match mapOf P t, opd m, opd k, opd v with
    | some (q, _), some m, some k, some v => some (.mapup q m k v)
    | _, _, _, _ => none
  | .mapEntry t m k => match mapOf P t, opd m, opd k with
    | some (q, z), some m, some k => some (.ment q z m k)
    | _, _, _ => none
  | .entryStore _ m s v => match opd m, opd s, opd v with
    | some m, some s, some v => some (.mst m s v)
    | _, _, _ => none
  | .range t x => match P.underlying t, opd x with
    | some .string, some x => some (.rng x)
    | _, _ => none
  | .next x true => (opd x).map .nxt
  | .extract x i => (opd x).map (.ext · i)
  | .call c => compCall P c
  | _ => none
def dstOk (N : Nat) : Option Nat → Bool
  | some d => decide (d < N)
  | none => true
def compOper (P : Program) (N : Nat) (ops : Array Oper) (o : Oper) : Option IOper :=
  if dstOk N o.dst then
    match compOp P o.op with
    | none => none
    | some i => match o.guard with
      | none => some { dst := o.dst, op := i }
      | some (j, want) => match (ops[j]?).bind (·.dst) with
        | some d => some { dst := o.dst, op := i, guard := some (d, want) }
        | none => none
  else none
def compOpers (P : Program) (N : Nat) (ops : Array Oper) : List Oper → Option (List IOper)
  | [] => some []
  | o :: os => match compOper P N ops o, compOpers P N ops os with
    | some a, some b => some (a :: b)
    | _, _ => none
def aheadOf (ops : List Oper) (acc : List Nat) : List Nat :=
  match ops with
  | [] => acc
  | o :: os =>
    let m := o.after.toList.foldl (fun s e => if Region.binds .any e then s ||| 2 ^ e.on ||| acc.getD e.on 0 else s) 0
    aheadOf os (acc ++ [m])
def IOp.opds : IOp → List Opd
  | .mv x | .mkif _ x | .ext x _ | .nilck x | .fa x _ | .fld _ _ _ x | .un _ x | .conv _ x | .len _ x | .ld _ _ x | .lenm x | .box x | .rng x | .nxt x | .clr x => [x]
  | .pick c a b => [c, a, b]
  | .mkfn _ a c => a ++ c
  | .ia _ x i | .iaa _ _ x i | .ix _ _ _ x i | .ixs x i | .bin _ x i | .eqv _ _ x i | .lkp _ _ _ x i | .mksl _ _ _ x i | .st _ x i | .ment _ _ x i | .app _ _ x i | .cpy _ x i => [x, i]
  | .mn x ys | .mx x ys => x :: ys
  | .slc _ x lo hi mz | .slca _ _ x lo hi mz => x :: (lo.toList ++ hi.toList ++ mz.toList)
  | .slcs x lo hi => x :: (lo.toList ++ hi.toList)
  | .bld _ ps | .bldS _ _ _ ps => ps.map (·.2.2)
  | .mapup _ m k v => [m, k, v]
  | .mst m s v => [m, s, v]
  | .call f args => f :: args
  | .lenc _ | .alloc _ | .mkmap => []
def slotsOf : List Opd → List Nat
  | [] => []
  | .t n :: r => n :: slotsOf r
  | .c _ :: r => slotsOf r
def looksOf (ops : Array Oper) (o : Oper) (i : IOper) : List Nat :=
  slotsOf i.op.opds ++ (match i.guard with | some (j, _) => [j] | none => []) ++
    o.op.operands.toList.filterMap (fun | .tmp t => some t | _ => none) ++ (match o.guard with | some (g, _) => ((ops[g]?).bind (·.dst)).toList | none => [])
def apartOk (lx ly : List Nat) (dx dy : Option Nat) : Bool :=
  (match dx with | some d => !(ly.contains d) && dy != some d | none => true) && (match dy with | some d => !(lx.contains d) | none => true)
def isHeavy (o : IOper) : Bool := match kindOf o.op with | .heavy => true | _ => false
def isRead (o : IOper) : Bool := match kindOf o.op with | .read => true | _ => false
def isMake (o : IOper) : Bool := match kindOf o.op with | .make => true | _ => false
def noDst (os : List IOper) (l : Nat) (lx : List Nat) : Bool :=
  match (os[l]?).bind (·.dst) with
  | some d => !lx.contains d
  | none => true
def stableAt (os : List IOper) (lx : List Nat) (dx : Option Nat) (i j : Nat) : Bool :=
  (List.range os.length).all fun l => Nat.blt l i || Nat.blt j l || (noDst os l lx && (Nat.beq l i || noDst os l dx.toList))
def pairOk (ops : Array Oper) (os : List IOper) (ms : List Nat) (i j : Nat) : Bool :=
  (ms.getD j 0).testBit i ||
  match ops[i]?, ops[j]?, os[i]?, os[j]? with
  | some a, some b, some x, some y =>
    apartOk (looksOf ops a x) (looksOf ops b y) x.dst y.dst && !(isHeavy x && isHeavy y) && !(isMake x && isHeavy y) &&
      (!(isRead x && isHeavy y) || stableAt os (looksOf ops a x) x.dst i j)
  | _, _, _, _ => false
def selfOk (ops : Array Oper) (os : List IOper) (j : Nat) : Bool :=
  match ops[j]?, os[j]? with
  | some a, some x => (!isRead x || noDst os j (looksOf ops a x)) && a.after.all fun e => !Region.binds .any e || Nat.blt e.on j
  | _, _ => false
def mkD (os : List IOper) (ms : List Nat) (o : IOper) (j : Nat) : DOper :=
  { o, heavy := isHeavy o,
    rechk := if isHeavy o then (List.range j).filterMap fun i => (os[i]?).bind fun x => if isRead x && !((ms.getD j 0).testBit i) then some x else none else if isRead o then [o] else [],
    back := if isRead o then (List.range j).filter fun i => !((ms.getD j 0).testBit i) && ((os[i]?).map isHeavy).getD false else [] }
def mkDs (os : List IOper) (ms : List Nat) : List IOper → Nat → List DOper
  | [], _ => []
  | o :: r, j => mkD os ms o j :: mkDs os ms r (j + 1)
def compDraw1 (P : Program) (N : Nat) (ops : Array Oper) : Option (List DOper) :=
  match compOpers P N ops ops.toList with
  | none => none
  | some os =>
    if (List.range os.length).all fun j => selfOk ops os j && (List.range j).all fun i => pairOk ops os (aheadOf ops.toList []) i j then
      some (mkDs os (aheadOf ops.toList []) os 0)
    else none
def reOn (l : List Nat) (o : Oper) : Oper := { o with after := o.after.map fun e => { e with on := l.getD e.on e.on } }
def permOps (l l' : List Nat) (ops : Array Oper) : Array Oper := (l.map fun i => reOn l' (ops.getD i default)).toArray
def permOk (n : Nat) (l l' : List Nat) : Bool :=
  Nat.beq l.length n && Nat.beq l'.length n && (List.range n).all fun i => Nat.blt (l.getD i i) n && Nat.blt (l'.getD i i) n && Nat.beq (l.getD (l'.getD i i) (l'.getD i i)) i && Nat.beq (l'.getD (l.getD i i) (l.getD i i)) i
def permOf (os : List IOper) (ms : List Nat) : List Nat :=
  let n := os.length
  let mk := fun i => ((os[i]?).map isMake).getD false
  let hv := fun j => ((os[j]?).map isHeavy).getD false
  let dl := (List.range n).filter fun i => mk i && (List.range n).any fun j => Nat.blt i j && hv j && !((ms.getD j 0).testBit i)
  let p := (List.range n).foldl (fun (s : List Nat × List Nat) j => if dl.contains j then (s.1, s.2 ++ [j]) else (s.1 ++ s.2.filter (fun i => (ms.getD j 0).testBit i) ++ [j], s.2.filter fun i => !((ms.getD j 0).testBit i))) ([], [])
  p.1 ++ p.2
def compDraw2 (P : Program) (N : Nat) (ops : Array Oper) : Option (List DOper) :=
  match compOpers P N ops ops.toList with
  | none => none
  | some os =>
    let l := permOf os (aheadOf ops.toList [])
    let l' := (List.range ops.size).map fun i => l.findIdx fun j => Nat.beq i j
    if permOk ops.size l l' && ops.toList.all (fun o => o.guard.isNone) then compDraw1 P N (permOps l l' ops) else none
def compDraw (P : Program) (N : Nat) (ops : Array Oper) : Option (List DOper) :=
  match compDraw1 P N ops with
  | some ds => some ds
  | none => compDraw2 P N ops
def compCode (P : Program) (N : Nat) : Code → Option ICode
  | .skip => some .skip
  | .region _ ops false => (compOpers P N ops ops.toList).map .region
  | .region _ ops true => (compDraw P N ops).map .draw
  | .seq a b => match compCode P N a, compCode P N b with
    | some a, some b => some (.seq a b)
    | _, _ => none
  | .cond c a b => match opd c, compCode P N a, compCode P N b with
    | some c, some a, some b => some (.cond c a b)
    | _, _, _ => none
  | .block id b => (compCode P N b).map (.block id)
  | .loop b => (compCode P N b).map .loop
  | .scope b => (compCode P N b).map .scope
  | .label _ => some .skip
  | .rangeFunc f ps a b => match opd f, compCode P N a, compCode P N b with
    | some f, some a, some b => if ps.toList.all (fun p => decide (p < N)) then some (.rangef f ps.toList a b) else none
    | _, _, _ => none
  | .exit id => some (.exit id)
  | .ret => some .ret
  | _ => none
def compRes (P : Program) : List ResultVar → Option (List IRes)
  | [] => some []
  | .tmp t :: r => (compRes P r).map (.tmp t :: ·)
  | .cell a t :: r => match aggOf P t, compRes P r with
    | some (g, n), some l => some (.cell a g n :: l)
    | _, _ => none
def compFun (P : Program) (f : Func) : Option IFun :=
  match f.body with
  | none => none
  | some c => if f.name == "runtime.NumGoroutine" then none else
    match compCode P f.ntmps c, compRes P f.results.toList with
    | some c, some r => some { nt := f.ntmps, code := c, res := r }
    | _, _ => none
end Go.Ax
end
section
set_option linter.unusedSectionVars false
namespace Go.Ax
variable [Globs]
open Go.RowKit
structure Spot where
  cb : Nat
  co : Nat
  room : Nat
  own : Bool
abbrev GM := Nat → Option Spot
mutual
inductive VR (m : GM) : V → Value → Prop
  | undef : VR m .undef (.tuple #[])
  | bool (b : Bool) : VR m (.bool b) (.bool b)
  | int (k : IntKind) (n : Int) : VR m (.int k n) (.int k n)
  | str (b : ByteArray) : VR m (.str b.data.toList) (.string b)
  | ptr {b : Nat} {s : Spot} (o : Nat) (h : m b = some s) : VR m (.ptr b o) (.pointer (some ⟨s.cb, s.co + o, none⟩))
  | nilptr : VR m .nilptr (.pointer none)
  | slice {b : Nat} {s : Spot} (o len cap : Nat) (oc : Option Nat) (e : Nat) (h : m b = some s) (hc : ∀ c, oc = some c → cap = c) (hl : len ≤ cap) (hr : o + cap * e ≤ s.room) :
      VR m (.slice b o len oc e) (.slice (some ⟨s.cb, s.co + o, none⟩) len cap)
  | slice0 {b : Nat} {s : Spot} (o e : Nat) (oc : Option Nat) (a : Addr) (hc : ∀ c, oc = some c → c = 0) (h : m b = some s) : VR m (.slice b o 0 oc e) (.slice (some a) 0 0)
  | nilslice : VR m .nilslice (.slice none 0 0)
  | map {b : Nat} {s : Spot} (h : m b = some s) : VR m (.map b) (.map (some s.cb))
  | nilmap : VR m .nilmap (.map none)
  | func (f : Nat) {x y : List V} {x' y' : List Value} (hx : VRs m x x') (hy : VRs m y y') : VR m (.func f x y) (.func (.func f) ⟨x'⟩ ⟨y'⟩)
  | yield {l : Nat} {s : Spot} (h : m l = some s) : VR m (.yield l) (.func (.yield s.cb) #[] #[])
  | nilfunc : VR m .nilfunc .nilFunc
  | iface (t : Nat) {v : V} {x : Value} (h : VR m v x) : VR m (.iface t v) (.iface t x)
  | niliface : VR m .niliface .nilIface
  | agg {x : List V} {x' : List Value} (h : VRs m x x') : VR m (.agg x) (.agg ⟨x'⟩)
  | tup {x : List V} {x' : List Value} (h : VRs m x x') : VR m (.tup x) (.tuple ⟨x'⟩)
inductive VRs (m : GM) : List V → List Value → Prop
  | nil : VRs m [] []
  | cons {v : V} {x : Value} {vs : List V} {xs : List Value} (h : VR m v x) (hs : VRs m vs xs) : VRs m (v :: vs) (x :: xs)
end
mutual
theorem VR.mono {m m' : GM} (hm : ∀ b s, m b = some s → m' b = some s) : ∀ {v : V} {x : Value}, VR m v x → VR m' v x
  | _, _, .undef => .undef
  | _, _, .bool b => .bool b
  | _, _, .int k n => .int k n
  | _, _, .str b => .str b
  | _, _, .ptr o h => .ptr o (hm _ _ h)
  | _, _, .nilptr => .nilptr
  | _, _, .slice o len cap oc e h hc hl hr => .slice o len cap oc e (hm _ _ h) hc hl hr
  | _, _, .slice0 o e oc a hc h => .slice0 o e oc a hc (hm _ _ h)
  | _, _, .nilslice => .nilslice
  | _, _, .map h => .map (hm _ _ h)
  | _, _, .nilmap => .nilmap
  | _, _, .func f hx hy => .func f (VRs.mono hm hx) (VRs.mono hm hy)
  | _, _, .yield h => .yield (hm _ _ h)
  | _, _, .nilfunc => .nilfunc
  | _, _, .iface t h => .iface t (VR.mono hm h)
  | _, _, .niliface => .niliface
  | _, _, .agg h => .agg (VRs.mono hm h)
  | _, _, .tup h => .tup (VRs.mono hm h)
theorem VRs.mono {m m' : GM} (hm : ∀ b s, m b = some s → m' b = some s) : ∀ {v : List V} {x : List Value}, VRs m v x → VRs m' v x
  | _, _, .nil => .nil
  | _, _, .cons h hs => .cons (VR.mono hm h) (VRs.mono hm hs)
end
theorem VRs.length {m : GM} : ∀ {v : List V} {x : List Value}, VRs m v x → v.length = x.length
  | _, _, .nil => rfl
  | _, _, .cons _ hs => by simp [VRs.length hs]
theorem VRs.get {m : GM} : ∀ {v : List V} {x : List Value}, VRs m v x → ∀ {i : Nat} {a : V}, v[i]? = some a → ∃ b, x[i]? = some b ∧ VR m a b
  | _, _, .nil, i, a, h => by simp at h
  | _, _, .cons (x := x) h hs, 0, a, he => by simp at he; subst he; exact ⟨x, rfl, h⟩
  | _, _, .cons h hs, i + 1, a, he => by simp at he; simpa using VRs.get hs he
theorem VRs.append {m : GM} : ∀ {v u : List V} {x y : List Value}, VRs m v x → VRs m u y → VRs m (v ++ u) (x ++ y)
  | _, _, _, _, .nil, h => h
  | _, _, _, _, .cons h hs, k => .cons h (VRs.append hs k)
theorem VRs.take {m : GM} : ∀ {v : List V} {x : List Value} (n : Nat), VRs m v x → VRs m (v.take n) (x.take n)
  | _, _, 0, _ => by simp; exact .nil
  | _, _, n + 1, .nil => by simp; exact .nil
  | _, _, n + 1, .cons h hs => by simp; exact .cons h (VRs.take n hs)
theorem VRs.drop {m : GM} : ∀ {v : List V} {x : List Value} (n : Nat), VRs m v x → VRs m (v.drop n) (x.drop n)
  | _, _, 0, h => by simpa using h
  | _, _, n + 1, .nil => by simp; exact .nil
  | _, _, n + 1, .cons h hs => by simp; exact VRs.drop n hs
theorem VRs.of_get {m : GM} : ∀ {v : List V} {x : List Value}, v.length = x.length → (∀ (i : Nat) a b, v[i]? = some a → x[i]? = some b → VR m a b) → VRs m v x
  | [], [], _, _ => .nil
  | a :: v, b :: x, hl, h => .cons (h 0 a b rfl rfl) (VRs.of_get (by simpa using hl) fun i p q hp hq => h (i + 1) p q (by simpa using hp) (by simpa using hq))
theorem VRs.collect {m : GM} (f : Nat → Option Value) : ∀ (v : List V), (∀ (i : Nat) a, v[i]? = some a → ∃ b, f i = some b ∧ VR m a b) →
    ∃ x : List Value, VRs m v x ∧ ∀ (i : Nat) b, x[i]? = some b → f i = some b := by
  intro v
  induction v generalizing f with
  | nil => intro _; exact ⟨[], .nil, by simp⟩
  | cons a v ih =>
    intro h
    obtain ⟨b, hb, hr⟩ := h 0 a rfl
    obtain ⟨x, hx, hf⟩ := ih (fun i => f (i + 1)) fun i c hc => h (i + 1) c (by simpa using hc)
    refine ⟨b :: x, .cons hr hx, fun i c hc => ?_⟩
    cases i with
    | zero => simp at hc; subst hc; exact hb
    | succ i => exact hf i c (by simpa using hc)
theorem VR.cells {m : GM} {v : V} {x : Value} (h : VR m v x) : VRs m v.cells x.cells.toList := by
  cases h with
  | agg h => exact h
  | undef => exact .cons .undef .nil
  | bool b => exact .cons (.bool b) .nil
  | int k n => exact .cons (.int k n) .nil
  | str b => exact .cons (.str b) .nil
  | ptr o h => exact .cons (.ptr o h) .nil
  | nilptr => exact .cons .nilptr .nil
  | slice o len cap oc e h hc hl hr => exact .cons (.slice o len cap oc e h hc hl hr) .nil
  | slice0 o e oc a hc h => exact .cons (.slice0 o e oc a hc h) .nil
  | nilslice => exact .cons .nilslice .nil
  | map h => exact .cons (.map h) .nil
  | nilmap => exact .cons .nilmap .nil
  | func f hx hy => exact .cons (.func f hx hy) .nil
  | yield h => exact .cons (.yield h) .nil
  | nilfunc => exact .cons .nilfunc .nil
  | iface t h => exact .cons (.iface t h) .nil
  | niliface => exact .cons .niliface .nil
  | tup h => exact .cons (.tup h) .nil
theorem VR.oneCell {m : GM} {v : V} {x : Value} (h : VR m v x) (hs : v.scalar = true) : (∀ c, x ≠ .agg c) ∧ (∀ c, x ≠ .tuple c) := by
  cases h <;> simp [V.scalar] at hs ⊢
inductive ERs (m : GM) : List (V × V × Nat) → List MapEntry → Prop
  | nil : ERs m [] []
  | cons {k v : V} {n : Nat} {e : MapEntry} {es : List (V × V × Nat)} {xs : List MapEntry} (hk : VR m k e.key) (hv : VR m v e.val) (hn : e.born = n) (hs : ERs m es xs) : ERs m ((k, v, n) :: es) (e :: xs)
def pendR : X → Option Code → Prop
  | .normal, p => p = none
  | .exit id, p => p = some (.exit id)
  | .ret, p => p = some .ret
section
variable {S : Type → Type} [Rep S]
def TR (m : GM) (τ : S V) (a : Array Value) : Prop := ∀ i, VR m (ev τ (.t i)) (a.getD i undef)
def BR (CR : Nat → ICode → Code → Prop) (m : GM) (s : Spot) (w : World) : Blk S → Prop
  | .arr cs a => ∃ c el fz, w.heap[s.cb]? = some (.cells c el fz) ∧ (∀ (i : Nat) v, cs[i]? = some v → v.scalar = true ∧ ∃ x, c[s.co + i]? = some x ∧ VR m v x) ∧
      s.co + s.room ≤ c.size ∧ (cs.length ≤ s.room ∧ a.sl ≤ cs.length) ∧ (a.ro = false → s.own = true ∧ fz = (0, 0))
  | .map es clk => s.own = true ∧ ∃ xs, w.heap[s.cb]? = some (.map ⟨xs⟩ clk) ∧ ERs m es xs
  | .iter b pos => s.own = true ∧ ∃ bs : ByteArray, w.heap[s.cb]? = some (.stringIter bs pos) ∧ bs.data.toList = b ∧ s.co = 0
  | .loop st pend τ ps asg body => s.own = true ∧ ∃ l : Loop, w.heap[s.cb]? = some (.loop l) ∧ l.state = st ∧ pendR pend l.pending ∧ TR m τ l.tmps ∧ l.params.toList = ps ∧
      (∀ p ∈ ps, p < l.tmps.size) ∧ CR l.tmps.size asg l.assign ∧ CR l.tmps.size body l.body
  | .dead => True
def Blk.other : Blk S → Bool
  | .arr _ _ | .dead => false
  | _ => true
def Gl (m : GM) : Prop := ∀ k ∈ Globs.gl, ∃ room, m k = some ⟨k, 0, room, false⟩
structure HR (CR : Nat → ICode → Code → Prop) (m : GM) (g : Nat → Option (Blk S)) (w : World) : Prop where
  lt : ∀ b s, m b = some s → s.cb < w.heap.size
  blk : ∀ b s o, m b = some s → g b = some o → BR CR m s w o
  sep : ∀ x y sx sy cx ax cy ay, m x = some sx → m y = some sy → g x = some (.arr cx ax) → g y = some (.arr cy ay) → x < y → sx.cb = sy.cb →
    (ax.ro = true ∧ ay.ro = true) ∨ (ax.ro = false ∧ ay.ro = false ∧ x ∈ ay.anc ∧ ax.child = true ∧ sx.co + cx.length ≤ sy.co + ay.sl)
  sepO : ∀ x y sx sy o p, m x = some sx → m y = some sy → g x = some o → g y = some p → o.other = true → p.other = true → x ≠ y → sx.cb ≠ sy.cb
  gl : Gl m
theorem Gl.mono {m m' : GM} (h : Gl m) (hm : ∀ b s, m b = some s → m' b = some s) : Gl m' := fun k hk => by
  obtain ⟨r, e⟩ := h k hk; exact ⟨r, hm k _ e⟩
def Mine (m : GM) (cb : Nat) : Prop := ∃ b s, m b = some s ∧ s.own = true ∧ s.cb = cb
structure Fr (m : GM) (w : World) (m' : GM) (w' : World) : Prop where
  mono : ∀ b s, m b = some s → m' b = some s
  size : w.heap.size ≤ w'.heap.size
  keep : ∀ cb, cb < w.heap.size → ¬ Mine m cb → w'.heap[cb]? = w.heap[cb]?
  mine : ∀ cb, cb < w.heap.size → Mine m' cb → Mine m cb
  img : ∀ b s, m' b = some s → s.cb < w.heap.size → ∃ b0 s0, m b0 = some s0 ∧ s0.cb = s.cb
  os : w'.os = w.os
  tape : w'.tape = w.tape
  output : w'.output = w.output
theorem Fr.refl (m : GM) (w : World) : Fr m w m w := ⟨fun _ _ h => h, Nat.le_refl _, fun _ _ _ => rfl, fun _ _ h => h, fun b s e _ => ⟨b, s, e, rfl⟩, rfl, rfl, rfl⟩
theorem Fr.trans {m1 m2 m3 : GM} {w1 w2 w3 : World} (h : Fr m1 w1 m2 w2) (k : Fr m2 w2 m3 w3) : Fr m1 w1 m3 w3 :=
  ⟨fun b s hb => k.mono b s (h.mono b s hb), Nat.le_trans h.size k.size,
   fun cb hc hn => (k.keep cb (Nat.lt_of_lt_of_le hc h.size) fun hm => hn (h.mine cb hc hm)).trans (h.keep cb hc hn),
   fun cb hc hm => h.mine cb hc (k.mine cb (Nat.lt_of_lt_of_le hc h.size) hm),
   fun b s e hc => by
     obtain ⟨b1, s1, e1, c1⟩ := k.img b s e (Nat.lt_of_lt_of_le hc h.size)
     obtain ⟨b0, s0, e0, c0⟩ := h.img b1 s1 e1 (by omega)
     exact ⟨b0, s0, e0, by omega⟩,
   k.os.trans h.os, k.tape.trans h.tape, k.output.trans h.output⟩
def Fresh (m : GM) (n : Nat) : Prop := ∀ b, n ≤ b → m b = none
theorem Hp.get_put (h : Hp S) (b : Nat) (o : Blk S) (c : Nat) : (h.put b o).get c = if c = b then some o else h.get c := by
  simp [Hp.put, Hp.get, Rep.get_set]
theorem Hp.get_push (h : Hp S) (o : Blk S) (c : Nat) : (h.push o).get c = if c = h.n then some o else h.get c := by
  simp [Hp.push, Hp.get, Rep.get_set]
theorem ev_set (τ : S V) (d : Nat) (v : V) (i : Nat) : ev (Rep.set τ d v) (.t i) = if i = d then v else ev τ (.t i) := by
  simp only [ev, Rep.get_set]
  split <;> rfl
theorem TR.set {m : GM} {τ : S V} {a : Array Value} (h : TR m τ a) {d : Nat} {v : V} {x : Value} (hv : VR m v x) (hd : d < a.size) :
    TR m (Rep.set τ d v) (a.setIfInBounds d x) := by
  intro i
  rw [ev_set]
  by_cases e : i = d
  · subst e; simp [hd, hv]
  · have := h i
    simp only [if_neg e]
    simpa [Array.getElem?_setIfInBounds_ne (Ne.symm e)] using this
theorem TR.mono {m m' : GM} {τ : S V} {a : Array Value} (hm : ∀ b s, m b = some s → m' b = some s) (h : TR m τ a) : TR m' τ a := fun i => (h i).mono hm
end
end Go.Ax
end
section
set_option linter.unusedSectionVars false
namespace Go.Ax
variable [Globs]
open Go.RowKit
section
variable {S : Type → Type} [Rep S] {CR : Nat → ICode → Code → Prop}
theorem BR.mono {m m' : GM} {s : Spot} {w w' : World} {o : Blk S} (hm : ∀ b s, m b = some s → m' b = some s) (hw : w'.heap[s.cb]? = w.heap[s.cb]?)
    (h : BR CR m s w o) : BR CR m' s w' o := by
  cases o with
  | arr cs a =>
    obtain ⟨c, el, fz, h1, h2, h3, h4, h5⟩ := h
    refine ⟨c, el, fz, by rw [hw]; exact h1, fun i v hv => ?_, h3, h4, h5⟩
    obtain ⟨hs, x, hx, hr⟩ := h2 i v hv
    exact ⟨hs, x, hx, hr.mono hm⟩
  | map es clk =>
    obtain ⟨h0, xs, h1, h2⟩ := h
    refine ⟨h0, xs, by rw [hw]; exact h1, ?_⟩
    clear h1
    induction h2 with
    | nil => exact .nil
    | cons hk hv hn _ ih => exact .cons (hk.mono hm) (hv.mono hm) hn ih
  | iter b pos =>
    obtain ⟨h0, bs, h1, h2⟩ := h
    exact ⟨h0, bs, by rw [hw]; exact h1, h2⟩
  | loop st pend τ ps asg body =>
    obtain ⟨h0, l, h1, h2, h3, h4, h5, h6, h7, h8⟩ := h
    exact ⟨h0, l, by rw [hw]; exact h1, h2, h3, h4.mono hm, h5, h6, h7, h8⟩
  | dead => trivial
theorem HR.frame {m : GM} {g : Nat → Option (Blk S)} {w w' : World} (h : HR CR m g w) (hs : w.heap.size ≤ w'.heap.size)
    (hk : ∀ b s, m b = some s → w'.heap[s.cb]? = w.heap[s.cb]?) : HR CR m g w' :=
  ⟨fun b s hb => Nat.lt_of_lt_of_le (h.lt b s hb) hs, fun b s o hb ho => (h.blk b s o hb ho).mono (fun _ _ e => e) (hk b s hb), h.sep, h.sepO, h.gl⟩
theorem HR.sub {m : GM} {g g' : Nat → Option (Blk S)} {w : World} (h : HR CR m g w) (hg : ∀ b s o, m b = some s → g' b = some o → g b = some o) : HR CR m g' w :=
  ⟨h.lt, fun b s o hb ho => h.blk b s o hb (hg b s o hb ho),
   fun x y sx sy cx ax cy ay hx hy gx gy => h.sep x y sx sy cx ax cy ay hx hy (hg _ _ _ hx gx) (hg _ _ _ hy gy),
   fun x y sx sy o p hx hy gx gy => h.sepO x y sx sy o p hx hy (hg _ _ _ hx gx) (hg _ _ _ hy gy), h.gl⟩
def GM.put (m : GM) (b : Nat) (s : Spot) : GM := fun c => if c = b then some s else m c
theorem GM.put_mono {m : GM} {N : Nat} {s : Spot} (hN : m N = none) : ∀ b t, m b = some t → (m.put N s) b = some t := by
  intro b t hb
  have : b ≠ N := by rintro rfl; rw [hN] at hb; cases hb
  simp [GM.put, this, hb]
theorem heap_alloc_lt (w : World) (o : Obj) {k : Nat} (h : k < w.heap.size) : (w.alloc o).heap[k]? = w.heap[k]? := Below.heap_alloc w o k h
theorem heap_alloc_at (w : World) (o : Obj) : (w.alloc o).heap[w.heap.size]? = some o := heap_alloc_new w o
theorem size_alloc (w : World) (o : Obj) : (w.alloc o).heap.size = w.heap.size + 1 := by
  show (w.heap.push o).size = _
  simp
theorem HR.alloc {m : GM} {g : Nat → Option (Blk S)} {w : World} (h : HR CR m g w) (N room : Nat) (hN : m N = none) (o : Blk S) (ob : Obj)
    (ho : BR CR (m.put N ⟨w.heap.size, 0, room, true⟩) ⟨w.heap.size, 0, room, true⟩ (w.alloc ob) o) :
    HR CR (m.put N ⟨w.heap.size, 0, room, true⟩) (fun c => if c = N then some o else g c) (w.alloc ob) ∧ Fr m w (m.put N ⟨w.heap.size, 0, room, true⟩) (w.alloc ob) := by
  have hm := GM.put_mono (s := ⟨w.heap.size, 0, room, true⟩) hN
  have old : ∀ b s, b ≠ N → (m.put N ⟨w.heap.size, 0, room, true⟩) b = some s → m b = some s ∧ s.cb < w.heap.size := by
    intro b s hb e
    simp only [GM.put, if_neg hb] at e
    exact ⟨e, h.lt b s e⟩
  have new : ∀ s, (m.put N ⟨w.heap.size, 0, room, true⟩) N = some s → s.cb = w.heap.size := by
    intro s e
    simp only [GM.put, if_true, Option.some.injEq] at e
    subst e; rfl
  refine ⟨⟨fun b s e => ?_, fun b s p e hp => ?_, ?_, ?_, h.gl.mono hm⟩, ⟨hm, by rw [size_alloc]; omega, fun cb hc _ => heap_alloc_lt w ob hc, fun cb hc ⟨b, s, e, ho', hcb⟩ => ?_, fun b s e hc => ?_, rfl, rfl, rfl⟩⟩
  · rw [size_alloc]
    by_cases hb : b = N
    · subst hb; have := new s e; omega
    · have := (old b s hb e).2; omega
  · by_cases hb : b = N
    · subst hb
      simp only [if_true, Option.some.injEq] at hp
      subst hp
      simp only [GM.put, if_true, Option.some.injEq] at e
      subst e; exact ho
    · simp only [if_neg hb] at hp
      obtain ⟨e', hlt⟩ := old b s hb e
      exact (h.blk b s p e' hp).mono hm (heap_alloc_lt w ob hlt)
  · intro x y sx sy cx ax cy ay hx hy gx gy hxy hcb
    by_cases hxN : x = N
    · subst hxN
      have h1 := new sx hx
      have h2 := (old y sy (by omega) hy).2
      omega
    · by_cases hyN : y = N
      · subst hyN
        have h1 := new sy hy
        have h2 := (old x sx hxN hx).2
        omega
      · simp only [if_neg hxN] at gx
        simp only [if_neg hyN] at gy
        exact h.sep x y sx sy cx ax cy ay (old x sx hxN hx).1 (old y sy hyN hy).1 gx gy hxy hcb
  · intro x y sx sy o' p hx hy gx gy ho1 hp1 hxy
    by_cases hxN : x = N
    · subst hxN
      have h1 := new sx hx
      have h2 := (old y sy (Ne.symm hxy) hy).2
      omega
    · by_cases hyN : y = N
      · subst hyN
        have h1 := new sy hy
        have h2 := (old x sx hxN hx).2
        omega
      · simp only [if_neg hxN] at gx
        simp only [if_neg hyN] at gy
        exact h.sepO x y sx sy o' p (old x sx hxN hx).1 (old y sy hyN hy).1 gx gy ho1 hp1 hxy
  · by_cases hb : b = N
    · subst hb; have := new s e; omega
    · exact ⟨b, s, (old b s hb e).1, ho', hcb⟩
  · by_cases hb : b = N
    · subst hb; have := new s e; omega
    · exact ⟨b, s, (old b s hb e).1, rfl⟩
theorem HR.setRow {m : GM} {g g' : Nat → Option (Blk S)} {w : World} (h : HR CR m g w) {b : Nat} {s : Spot} {cs cs' : List V} {a a' : BA} (hb : m b = some s)
    (hg : g b = some (.arr cs a)) (hro : a.ro = false) (hch : a.child = false) (ha' : a' = a ∨ a' = {}) (hlen : cs'.length = cs.length)
    (c : Array Value) (el : TypeId) (hc : w.heap[s.cb]? = some (.cells c el (0, 0))) (c' : Array Value) (hcs : c'.size = c.size)
    (hnew : ∀ (i : Nat) v, cs'[i]? = some v → v.scalar = true ∧ ∃ x, c'[s.co + i]? = some x ∧ VR m v x)
    (o n : Nat) (hsame : ∀ j, j < s.co + o ∨ s.co + o + n ≤ j → c'[j]? = c[j]?)
    (hgb : g' b = some (.arr cs' a'))
    (hgo : ∀ y, y ≠ b → g' y = g y ∨ g' y = some .dead)
    (hanc : ∀ y cy ay, y < b → y ∈ a.anc → g' y = some (.arr cy ay) → a.sl ≤ o ∧ a' = a) :
    HR CR m g' (w.setRow s.cb c') ∧ Fr m w m (w.setRow s.cb c') := by
  have hbr := h.blk b s _ hb hg
  obtain ⟨c0, el0, fz0, h1, h2, h3, h4, h5⟩ := hbr
  obtain ⟨hown, hfz⟩ := h5 hro
  subst hfz
  rw [hc] at h1
  cases h1
  have heap_b := setRow_heap w s.cb c c' el (0, 0) hc
  have old_of : ∀ y sy cy ay, y ≠ b → m y = some sy → g' y = some (.arr cy ay) → g y = some (.arr cy ay) := by
    intro y sy cy ay hy _ e
    rcases hgo y hy with e' | e'
    · rw [← e']; exact e
    · rw [e'] at e; cases e
  have keep : ∀ y sy cy ay, y ≠ b → m y = some sy → g' y = some (.arr cy ay) → sy.cb = s.cb → sy.co + cy.length ≤ s.co + o := by
    intro y sy cy ay hy hmy e hcb
    have e0 := old_of y sy cy ay hy hmy e
    rcases Nat.lt_or_ge y b with hlt | hge
    · rcases h.sep y b sy s cy ay cs a hmy hb e0 hg hlt hcb with ⟨_, hr⟩ | ⟨_, _, hin, _, hle⟩
      · rw [hro] at hr; cases hr
      · have := (hanc y cy ay hlt hin e).1
        omega
    · have hlt : b < y := by omega
      rcases h.sep b y s sy cs a cy ay hb hmy hg e0 hlt hcb.symm with ⟨hr, _⟩ | ⟨_, _, _, hc', _⟩
      · rw [hro] at hr; cases hr
      · rw [hch] at hc'; cases hc'
  refine ⟨⟨fun y sy e => by rw [setRow_size]; exact h.lt y sy e, ?_, ?_, ?_, h.gl⟩, ⟨fun _ _ e => e, by rw [setRow_size]; exact Nat.le_refl _, fun cb _ hn => ?_, fun _ _ e => e, fun b s e _ => ⟨b, s, e, rfl⟩, rfl, rfl, rfl⟩⟩
  · intro y sy p hmy hp
    by_cases hy : y = b
    · subst hy
      rw [hb] at hmy; cases hmy
      rw [hgb] at hp; cases hp
      have hsl : a'.sl ≤ cs'.length := by
        rcases ha' with rfl | rfl
        · omega
        · exact Nat.zero_le _
      exact ⟨c', el, (0, 0), heap_b, hnew, by omega, ⟨by omega, hsl⟩, fun _ => ⟨hown, rfl⟩⟩
    · cases p with
      | arr cy ay =>
        have e0 := old_of y sy cy ay hy hmy hp
        by_cases hcb : sy.cb = s.cb
        · have hk := keep y sy cy ay hy hmy hp hcb
          obtain ⟨c1, el1, fz1, k1, k2, k3, k4, k5⟩ := h.blk y sy _ hmy e0
          rw [hcb, hc] at k1
          cases k1
          refine ⟨c', el, (0, 0), by rw [hcb]; exact heap_b, fun i v hv => ?_, by omega, k4, fun e => k5 e⟩
          obtain ⟨q1, x, q2, q3⟩ := k2 i v hv
          have hi : i < cy.length := by
            rcases Nat.lt_or_ge i cy.length with hlt | hge
            · exact hlt
            · rw [List.getElem?_eq_none hge] at hv; cases hv
          exact ⟨q1, x, by rw [hsame _ (Or.inl (by omega))]; exact q2, q3⟩
        · exact (h.blk y sy _ hmy e0).mono (fun _ _ e => e) (setRow_other w s.cb sy.cb c' hcb)
      | dead => trivial
      | _ =>
        have e0 : g y = g' y := by
          rcases hgo y hy with e' | e'
          · exact e'.symm
          · rw [hp] at e'; cases e'
        rw [hp] at e0
        have hbr := h.blk y sy _ hmy e0
        refine hbr.mono (fun _ _ e => e) (setRow_other w s.cb sy.cb c' ?_)
        intro hcb
        obtain ⟨_, ob, k1, _⟩ := hbr
        rw [hcb, hc] at k1
        cases k1
  · intro x y sx sy cx ax cy ay hx hy gx gy hxy hcb
    by_cases hxb : x = b
    · subst hxb
      rw [hb] at hx; cases hx
      rw [hgb] at gx; cases gx
      have e0 := old_of y sy cy ay (by omega) hy gy
      rcases h.sep x y s sy cs a cy ay hb hy hg e0 hxy hcb with ⟨hr, _⟩ | ⟨_, _, _, hc', _⟩
      · rw [hro] at hr; cases hr
      · rw [hch] at hc'; cases hc'
    · by_cases hyb : y = b
      · subst hyb
        rw [hb] at hy; cases hy
        rw [hgb] at gy; cases gy
        have e0 := old_of x sx cx ax hxb hx gx
        rcases h.sep x y sx s cx ax cs a hx hb e0 hg hxy hcb with ⟨_, hr⟩ | ⟨q1, q2, q3, q4, q5⟩
        · rw [hro] at hr; cases hr
        · have := (hanc x cx ax hxy q3 gx).2
          subst this
          exact Or.inr ⟨q1, q2, q3, q4, q5⟩
      · exact h.sep x y sx sy cx ax cy ay hx hy (old_of x sx cx ax hxb hx gx) (old_of y sy cy ay hyb hy gy) hxy hcb
  · intro x y sx sy p q hx hy gx gy ho hq hxy
    have up : ∀ z (r : Blk S), g' z = some r → r.other = true → g z = some r := by
      intro z r e hr
      by_cases hz : z = b
      · subst hz; rw [hgb] at e; cases e; cases hr
      · rcases hgo z hz with e' | e'
        · rw [← e']; exact e
        · rw [e'] at e; cases e; cases hr
    exact h.sepO x y sx sy p q hx hy (up x p gx ho) (up y q gy hq) ho hq hxy
  · refine setRow_other w s.cb cb c' ?_
    rintro rfl
    exact hn ⟨b, s, hb, hown, rfl⟩
def World.putObj' (w : World) (r : Nat) (o : Obj) : World := { w with heap := w.heap.setIfInBounds r o }
theorem putObj_at (w : World) (r : Nat) (o : Obj) (h : r < w.heap.size) : (World.putObj' w r o).heap[r]? = some o := by simp [World.putObj', h]
theorem putObj_other (w : World) (r k : Nat) (o : Obj) (h : k ≠ r) : (World.putObj' w r o).heap[k]? = w.heap[k]? := by
  simp only [World.putObj']
  rw [Array.getElem?_setIfInBounds_ne (Ne.symm h)]
theorem putObj_size (w : World) (r : Nat) (o : Obj) : (World.putObj' w r o).heap.size = w.heap.size := by simp [World.putObj']
theorem HR.setObj {m : GM} {g : Nat → Option (Blk S)} {w : World} (h : HR CR m g w) {b : Nat} {s : Spot} {o o' : Blk S} (hb : m b = some s)
    (hg : g b = some o) (ho : o.other = true) (ho' : o'.other = true) (ob : Obj) (hnew : BR CR m s (World.putObj' w s.cb ob) o') :
    HR CR m (fun c => if c = b then some o' else g c) (World.putObj' w s.cb ob) ∧ Fr m w m (World.putObj' w s.cb ob) := by
  have hlt := h.lt b s hb
  have hbr := h.blk b s o hb hg
  have hown : s.own = true := by
    cases o with
    | arr cs a => cases ho
    | dead => cases ho
    | _ => exact hbr.1
  have notcells : ∀ c el fz, w.heap[s.cb]? ≠ some (.cells c el fz) := by
    intro c el fz e
    cases o with
    | arr cs a => cases ho
    | dead => cases ho
    | _ => obtain ⟨_, x, k, _⟩ := hbr; rw [e] at k; cases k
  refine ⟨⟨fun y sy e => by rw [putObj_size]; exact h.lt y sy e, ?_, ?_, ?_, h.gl⟩, ⟨fun _ _ e => e, by rw [putObj_size]; exact Nat.le_refl _, fun cb _ hn => ?_, fun _ _ e => e, fun b s e _ => ⟨b, s, e, rfl⟩, rfl, rfl, rfl⟩⟩
  · intro y sy p hmy hp
    by_cases hy : y = b
    · subst hy
      rw [hb] at hmy; cases hmy
      simp only [if_true, Option.some.injEq] at hp
      subst hp; exact hnew
    · simp only [if_neg hy] at hp
      have hbr' := h.blk y sy p hmy hp
      cases p with
      | dead => trivial
      | arr cy ay =>
        refine hbr'.mono (fun _ _ e => e) (putObj_other w s.cb sy.cb ob ?_)
        intro hcb
        obtain ⟨c1, el1, fz1, k1, _⟩ := hbr'
        rw [hcb] at k1
        exact notcells _ _ _ k1
      | _ =>
        refine hbr'.mono (fun _ _ e => e) (putObj_other w s.cb sy.cb ob ?_)
        exact h.sepO y b sy s _ o hmy hb hp hg rfl ho hy
  · intro x y sx sy cx ax cy ay hx hy gx gy hxy hcb
    have up : ∀ z cz az, (if z = b then some o' else g z) = some (.arr cz az) → g z = some (.arr cz az) := by
      intro z cz az e
      by_cases hz : z = b
      · rw [if_pos hz] at e; cases e; cases ho'
      · rwa [if_neg hz] at e
    exact h.sep x y sx sy cx ax cy ay hx hy (up _ _ _ gx) (up _ _ _ gy) hxy hcb
  · intro x y sx sy p q hx hy gx gy hp hq hxy
    by_cases hxb : x = b
    · subst hxb
      rw [hb] at hx; cases hx
      simp only [if_neg (Ne.symm hxy)] at gy
      exact h.sepO x y s sy o q hb hy hg gy ho hq hxy
    · by_cases hyb : y = b
      · subst hyb
        rw [hb] at hy; cases hy
        simp only [if_neg hxb] at gx
        exact h.sepO x y sx s p o hx hb gx hg hp ho hxy
      · simp only [if_neg hxb] at gx
        simp only [if_neg hyb] at gy
        exact h.sepO x y sx sy p q hx hy gx gy hp hq hxy
  · refine putObj_other w s.cb cb ob ?_
    rintro rfl
    exact hn ⟨b, s, hb, hown, rfl⟩
end
end Go.Ax
end
section
set_option linter.unusedSectionVars false
namespace Go.Ax
variable [Globs]
open Go.RowKit
def OR (m : GM) (ρ : Opd → V) (ρc : Operand → Value) : Prop := ∀ x y, opd x = some y → VR m (ρ y) (ρc x)
theorem cv1_VR {m : GM} {v : Value} {x : V} (h : cv1 v = some x) : VR m x v := by
  unfold cv1 at h
  split at h <;> cases h
  · exact .bool _
  · exact .int _ _
  · exact .str _
  · exact .nilptr
  · exact .nilslice
  · exact .nilmap
  · exact .nilfunc
  · exact .niliface
theorem cvs_VRs {m : GM} : ∀ {vs : List Value} {xs : List V}, cvs cv1 vs = some xs → VRs m xs vs
  | [], xs, h => by simp [cvs] at h; subst h; exact .nil
  | v :: vs, xs, h => by
    simp only [cvs] at h
    split at h
    · rename_i a b ha hb
      cases h
      exact .cons (cv1_VR ha) (cvs_VRs hb)
    · cases h
theorem cv_VR {m : GM} {v : Value} {x : V} (h : cv v = some x) : VR m x v := by
  unfold cv at h
  split at h
  · rename_i cs
    cases hc : cvs cv1 cs.toList with
    | none => simp [hc] at h
    | some xs =>
      simp [hc] at h
      subst h
      have := VR.agg (m := m) (cvs_VRs (m := m) hc)
      simpa using this
  · exact cv1_VR h
theorem OR.of {S : Type → Type} [Rep S] {m : GM} {τ : S V} {a : Act} (hgl : Gl m) (h : TR m τ a.tmps) : OR m (ev τ) a.eval := by
  intro x y hx
  cases x with
  | tmp t =>
    simp only [opd, Option.some.injEq] at hx
    subst hx
    exact h t
  | const v =>
    simp only [opd] at hx
    cases hc : cv v with
    | none => simp [hc] at hx
    | some c =>
      simp [hc] at hx
      subst hx
      exact cv_VR hc
  | func f =>
    simp only [opd, Option.some.injEq] at hx
    subst hx
    exact .func f .nil .nil
  | global g =>
    simp only [opd] at hx
    split at hx
    · rename_i hg
      cases hx
      obtain ⟨room, hm⟩ := hgl g (by simpa using hg)
      exact VR.ptr (m := m) 0 hm
    · cases hx
theorem OR.mono {m m' : GM} {ρ : Opd → V} {ρc : Operand → Value} (hm : ∀ b s, m b = some s → m' b = some s) (h : OR m ρ ρc) : OR m' ρ ρc :=
  fun x y e => (h x y e).mono hm
theorem OR.list {m : GM} {ρ : Opd → V} {ρc : Operand → Value} (h : OR m ρ ρc) : ∀ {xs : List Operand} {ys : List Opd}, opds xs = some ys → VRs m (ys.map ρ) (xs.map ρc)
  | [], ys, e => by simp [opds] at e; subst e; exact .nil
  | x :: xs, ys, e => by
    simp only [opds] at e
    split at e
    · rename_i a b ha hb
      cases e
      exact .cons (h _ _ ha) (OR.list h hb)
    · cases e
theorem run_underlying' {P : Program} {t : TypeId} {d : TypeDesc} (h : P.underlying t = some d) (w : World) : (underlying t).run P w = .ok d w := by
  simp [underlying, h]
theorem run_isAgg {P : Program} {t : TypeId} {d : TypeDesc} (h : P.underlying t = some d) (w : World) : (isAgg t).run P w = .ok (isAggD d) w := by
  simp only [isAgg, Sem.run_bind, run_underlying' h, Result.andThen_ok]
  cases d <;> rfl
theorem run_sizeOf' {P : Program} {t : TypeId} {i : TypeInfo} (h : P.info? t = some i) (w : World) : (sizeOf t).run P w = .ok i.size w := by
  simp [sizeOf, typeInfo, h]
theorem aggOf_spec {P : Program} {t : TypeId} {g : Bool} {n : Nat} (h : aggOf P t = some (g, n)) :
    ∃ d i, P.underlying t = some d ∧ P.info? t = some i ∧ g = isAggD d ∧ n = i.size := by
  unfold aggOf at h
  split at h
  · rename_i d i hd hi
    cases h
    exact ⟨d, i, hd, hi, rfl, rfl⟩
  · cases h
theorem ikEq_eq {a b : IntKind} (h : ikEq a b = true) : a = b := by cases a <;> cases b <;> first | rfl | cases h
theorem bytesEq_iff : ∀ (a b : List UInt8), bytesEq a b = true ↔ a = b
  | [], [] => by simp [bytesEq]
  | [], _ :: _ => by simp [bytesEq]
  | _ :: _, [] => by simp [bytesEq]
  | a :: x, b :: y => by
    simp only [bytesEq, Bool.and_eq_true, bytesEq_iff x y, List.cons.injEq]
    constructor
    · rintro ⟨h, k⟩
      exact ⟨UInt8.toNat_inj.1 (Nat.eq_of_beq_eq_true h), k⟩
    · rintro ⟨rfl, k⟩
      exact ⟨by simp, k⟩
theorem bytesEq_dec (a b : List UInt8) : bytesEq a b = (a == b) := by
  rw [Bool.eq_iff_iff, bytesEq_iff, beq_iff_eq]
theorem strLt_eq : ∀ (a b : List UInt8), strLt a b = Op.bytesLess a b
  | [], [] => rfl
  | _ :: _, [] => rfl
  | [], _ :: _ => rfl
  | a :: x, b :: y => by
    simp only [strLt, Op.bytesLess, strLt_eq x y]
    congr 1
    · rw [Bool.eq_iff_iff]
      simp only [Nat.blt_eq, decide_eq_true_eq]
      exact UInt8.lt_iff_toNat_lt.symm
    · congr 1
      rw [Bool.eq_iff_iff, beq_iff_eq]
      constructor
      · intro h; exact UInt8.toNat_inj.1 (Nat.eq_of_beq_eq_true h)
      · rintro rfl; simp
theorem run_binI {P : Program} {w : World} {op : BinOp} {k j : IntKind} {a b : Int} {v : V} {t : TypeId} (h : binI op k a j b = some v) :
    ∃ x, (binOp op t (.int k a) (.int j b)).run P w = .ok x w ∧ ∀ m, VR m v x := by
  unfold binI at h
  split at h
  · split at h
    · cases h
    · rename_i hb
      cases h
      refine ⟨.int k _, ?_, fun m => .int _ _⟩
      simp only [binOp, Op.shift, if_neg hb]; rfl
  · split at h
    · cases h
    · rename_i hb
      cases h
      refine ⟨.int k _, ?_, fun m => .int _ _⟩
      simp only [binOp, Op.shift, if_neg hb]; rfl
  · rename_i h1 h2
    split at h
    case isFalse => cases h
    rename_i hk
    obtain rfl := ikEq_eq hk
    cases op <;> simp only at h <;> first
      | (cases h; done)
      | (cases h; refine ⟨.int k _, ?_, fun m => .int _ _⟩; simp [binOp, Op.intArith]; done)
      | (cases h; refine ⟨.int k _, ?_, fun m => .int _ _⟩; simp [binOp, Op.intBits]; done)
      | (cases h; refine ⟨.bool _, ?_, fun m => .bool _⟩; simp [binOp, Op.intCmp]; done)
      | (split at h
         · cases h
         · rename_i hb
           cases h
           refine ⟨.int k _, ?_, fun m => .int _ _⟩
           simp [binOp, Op.intDiv, hb])
theorem ba_toList (x : ByteArray) : x.toList = x.data.toList := ByteArray.toList_eq x
theorem run_binS {P : Program} {w : World} {op : BinOp} {a b : ByteArray} {v : V} {t : TypeId} (h : binS op a.data.toList b.data.toList = some v) :
    ∃ x, (binOp op t (.string a) (.string b)).run P w = .ok x w ∧ ∀ m, VR m v x := by
  unfold binS at h
  cases op <;> simp only at h <;> first
    | (cases h; done)
    | (split at h
       · rename_i hl
         cases h
         have e : a.data.toList ++ b.data.toList = (a ++ b).data.toList := by simp
         have e2 : ((a.size : Int) + (b.size : Int)) ≤ 9223372036854775807 := by
           have ha : a.data.toList.length = a.size := by simp
           have hb : b.data.toList.length = b.size := by simp
           omega
         refine ⟨.string (a ++ b), by simp [binOp, Op.stringOp, e2], fun m => ?_⟩
         rw [e]; exact .str _
       · cases h)
    | (cases h; refine ⟨.bool _, ?_, fun m => .bool _⟩; simp [binOp, Op.stringOp, ba_toList, bytesEq_dec, strLt_eq])
theorem addr_add (b o n : Nat) : (⟨b, o, none⟩ : Addr).add n = ⟨b, o + n, none⟩ := by
  unfold Addr.add; split
  · rename_i h; subst h; rfl
  · rfl
def spliceV (cs : List Value) (o : Nat) (vs : List Value) : List Value := cs.take o ++ vs ++ cs.drop (o + vs.length)
theorem spliceV_cons (cs : List Value) (o : Nat) (v : Value) (vs : List Value) (h : o + (vs.length + 1) ≤ cs.length) :
    spliceV (cs.set o v) (o + 1) vs = spliceV cs o (v :: vs) := by
  obtain ⟨A, c, B, rfl, rfl⟩ : ∃ A c B, cs = A ++ c :: B ∧ A.length = o := by
    refine ⟨cs.take o, cs[o]'(by omega), cs.drop (o + 1), ?_, by simp; omega⟩
    rw [← List.drop_eq_getElem_cons (by omega), List.take_append_drop]
  unfold spliceV
  have e1 : (A ++ c :: B).set A.length v = A ++ v :: B := by simp
  have e2 : List.take (A.length + 1) (A ++ v :: B) = A ++ [v] := by simp [List.take_append, List.take_of_length_le]
  have e3 : ∀ (u : Value) n, List.drop (A.length + (n + 1)) (A ++ u :: B) = B.drop n := by intro u n; simp [List.drop_append]
  rw [e1, e2, show A.length + 1 + vs.length = A.length + (vs.length + 1) by omega, e3, List.length_cons, e3]
  simp
theorem foldl_splice : ∀ (vs : List Value) (o k : Nat) (cells : Array Value), o + k + vs.length ≤ cells.size →
    ((vs.zipIdx k).foldl (fun (cs : Array Value) (p : Value × Nat) => cs.setIfInBounds (o + p.2) p.1) cells).toList = spliceV cells.toList (o + k) vs
  | [], o, k, cells, h => by simp [spliceV]
  | v :: vs, o, k, cells, h => by
    simp only [List.zipIdx_cons, List.foldl_cons]
    rw [foldl_splice vs o (k + 1) _ (by simp at h ⊢; omega), ← Nat.add_assoc, ← spliceV_cons _ _ _ _ (by simp at h ⊢; omega)]
    congr 1
    simp
theorem VRs.splice {m : GM} {cs vs : List V} {xs ys : List Value} (o : Nat) (h : VRs m cs xs) (k : VRs m vs ys) : VRs m (splice cs o vs) (spliceV xs o ys) := by
  unfold Ax.splice spliceV
  rw [k.length]
  exact ((h.take o).append k).append (h.drop _)
inductive PRs (m : GM) (place : Nat → Option (Nat × Nat)) : List (Nat × Nat × V) → List (Nat × Value) → Prop
  | nil : PRs m place [] []
  | cons {off sz i : Nat} {v : V} {x : Value} {ps : List (Nat × Nat × V)} {qs : List (Nat × Value)} (hp : place i = some (off, sz)) (hv : VR m v x) (hs : PRs m place ps qs) :
      PRs m place ((off, sz, v) :: ps) ((i, x) :: qs)
theorem fill_rel {m : GM} {place : Nat → Option (Nat × Nat)} : ∀ {ps : List (Nat × Nat × V)} {qs : List (Nat × Value)}, PRs m place ps qs →
    ∀ {cs : List V} {cells : Array Value} {cs' : List V}, VRs m cs cells.toList → fill cs ps = some cs' → ∃ r, Instr.fill place cells qs = some r ∧ VRs m cs' r.toList
  | _, _, .nil, cs, cells, cs', h, e => by simp only [fill, Option.some.injEq] at e; subst e; exact ⟨cells, rfl, h⟩
  | _, _, .cons (off := off) (sz := sz) (i := i) (v := v) (x := x) hp hv hs, cs, cells, cs', h, e => by
    simp only [fill] at e
    split at e
    case isFalse => cases e
    rename_i hc
    simp only [Bool.and_eq_true] at hc
    have h1 := Nat.eq_of_beq_eq_true hc.1
    have h2 := Nat.le_of_ble_eq_true hc.2
    have hl := hv.cells.length
    have hcl := h.length
    simp only [Array.length_toList] at hl hcl
    have hcond : ¬ (x.cells.size ≠ sz || decide (off + x.cells.size > cells.size)) = true := by simp; omega
    have hfold := foldl_splice x.cells.toList off 0 cells (by simp; omega)
    simp only [Nat.add_zero] at hfold
    have hz : (x.cells.zipIdx.foldl (fun (cs : Array Value) (p : Value × Nat) => cs.setIfInBounds (off + p.2) p.1) cells).toList = spliceV cells.toList off x.cells.toList := by
      rw [← hfold, ← Array.foldl_toList, Array.toList_zipIdx]
    obtain ⟨r, hr, hrel⟩ := fill_rel hs (cells := x.cells.zipIdx.foldl (fun (cs : Array Value) (p : Value × Nat) => cs.setIfInBounds (off + p.2) p.1) cells) (by rw [hz]; exact h.splice off hv.cells) e
    refine ⟨r, ?_, hrel⟩
    simp only [Instr.fill, hp, if_neg hcond]
    exact hr
theorem bparts_rel {P : Program} {m : GM} {ρ : Opd → V} {ρc : Operand → Value} (ho : OR m ρ ρc) (fs : Array Field) (pl : Nat → Option (Nat × Nat))
    (hpl : ∀ i f j, fs[i]? = some f → P.info? f.type = some j → pl i = some (f.offset, j.size)) :
    ∀ {ps : List (Nat × Operand)} {l : List (Nat × Nat × Opd)}, bparts P fs ps = some l → PRs m pl (l.map fun p => (p.1, p.2.1, ρ p.2.2)) (ps.map fun p => (p.1, ρc p.2))
  | [], l, e => by simp only [bparts, Option.some.injEq] at e; subst e; exact .nil
  | (i, x) :: r, l, e => by
    simp only [bparts] at e
    split at e
    · cases e
    · rename_i f hf
      split at e
      · rename_i j y l' hj hy hl
        cases e
        exact .cons (hpl i f j hf hj) (ho _ _ hy) (bparts_rel ho fs pl hpl hl)
      · cases e
theorem aparts_rel {m : GM} {ρ : Opd → V} {ρc : Operand → Value} (ho : OR m ρ ρc) (size : Nat) :
    ∀ {ps : List (Nat × Operand)} {l : List (Nat × Nat × Opd)}, aparts size ps = some l → PRs m (fun i => some (i * size, size)) (l.map fun p => (p.1, p.2.1, ρ p.2.2)) (ps.map fun p => (p.1, ρc p.2))
  | [], l, e => by simp only [aparts, Option.some.injEq] at e; subst e; exact .nil
  | (i, x) :: r, l, e => by
    simp only [aparts] at e
    split at e
    · rename_i y l' hy hl
      cases e
      exact .cons rfl (ho _ _ hy) (aparts_rel ho size hl)
    · cases e
theorem zeroOf_spec {P : Program} {t : TypeId} {z : V} (h : zeroOf P t = some z) : ∃ i v, P.info? t = some i ∧ i.zero = some v ∧ cv v = some z := by
  unfold zeroOf at h
  split at h
  · rename_i i hi
    cases hz : i.zero with
    | none => simp [hz] at h
    | some v => simp [hz] at h; exact ⟨i, v, hi, hz, h⟩
  · cases h
theorem run_zeroValue {P : Program} {t : TypeId} {i : TypeInfo} {v : Value} (h : P.info? t = some i) (hz : i.zero = some v) (w : World) : (zeroValue t).run P w = .ok v w := by
  simp [zeroValue, typeInfo, h, hz]
theorem run_places {P : Program} (w : World) : ∀ (fs : List Field), (∀ f, f ∈ fs → ∃ j, P.info? f.type = some j) →
    ∃ l : List (Nat × Nat), (fs.mapM (fun f => (do pure (f.offset, ← sizeOf f.type) : Sem (Nat × Nat)))).run P w = .ok l w ∧ ∀ (i : Nat) f j, fs[i]? = some f → P.info? f.type = some j → l[i]? = some (f.offset, j.size)
  | [], _ => ⟨[], rfl, by simp⟩
  | f :: fs, h => by
    obtain ⟨j, hj⟩ := h f (by simp)
    obtain ⟨l, hl, hp⟩ := run_places w fs fun g hg => h g (by simp [hg])
    refine ⟨(f.offset, j.size) :: l, ?_, fun i g k hg hk => ?_⟩
    · simp only [List.mapM_cons, Sem.run_bind, run_sizeOf' hj, Result.andThen_ok, Sem.run_pure, hl]
    · cases i with
      | zero => simp at hg; subst hg; rw [hj] at hk; cases hk; rfl
      | succ i => simpa using hp i g k (by simpa using hg) hk
end Go.Ax
end
section
set_option linter.unusedSectionVars false
namespace Go.Ax
variable [Globs]
open Go.RowKit
section
variable {P : Program} {m : GM}
def valOf (P : Program) (t : TypeId) (xs : List Value) : Value :=
  match P.underlying t with
  | some d => if isAggD d then .agg ⟨xs⟩ else xs.headD undef
  | none => undef
def CkTy (P : Program) (t : TypeId) : CK → Prop
  | .i => ∃ k, P.underlying t = some (.int k)
  | .b => P.underlying t = some .bool
  | .s => P.underlying t = some .string
theorem eqs_run {c : CK} {a b : V} {r : Bool} {x y : Value} (h : eqs c a b = some r) (hx : VR m a x) (hy : VR m b y) (d : Nat) (t : TypeId) (w : World)
    (ht : CkTy P t c) :
    (Op.equalIn (d + 1) t x y).run P w = .ok r w := by
  unfold eqs at h
  split at h
  · split at h
    · rename_i hk
      obtain rfl := ikEq_eq hk
      cases h
      cases hx; cases hy
      obtain ⟨k', ht⟩ := ht
      exact run_equalIn_int w d t _ k' _ _ ht
    · cases h
  · cases h
    cases hx; cases hy
    rw [run_equalIn_string w d t _ _ ht, bytesEq_dec, ba_toList, ba_toList]
  · cases h
    cases hx; cases hy
    exact run_equalIn_bool' w d t _ _ ht
  · cases h
theorem eqss_append : ∀ {k1 k2 : List CK} {a1 a2 b1 b2 : List V} {r : Bool}, a1.length = k1.length → b1.length = k1.length → eqss (k1 ++ k2) (a1 ++ a2) (b1 ++ b2) = some r →
    ∃ p q, eqss k1 a1 b1 = some p ∧ eqss k2 a2 b2 = some q ∧ r = (p && q)
  | [], k2, a1, a2, b1, b2, r, h1, h2, h => by
    simp at h1 h2; subst h1; subst h2
    exact ⟨true, r, rfl, by simpa using h, by simp⟩
  | c :: k1, k2, a :: a1, a2, b :: b1, b2, r, h1, h2, h => by
    simp only [List.cons_append, eqss] at h
    split at h
    · rename_i p q hp hq
      cases h
      obtain ⟨p', q', e1, e2, rfl⟩ := eqss_append (by simpa using h1) (by simpa using h2) hq
      exact ⟨p && p', q', by simp [eqss, hp, e1], e2, by simp [Bool.and_assoc]⟩
    · cases h
  | _ :: _, _, [], _, _, _, _, h1, _, _ => by simp at h1
  | _ :: _, _, _ :: _, _, [], _, _, _, h2, _ => by simp at h2
theorem eqss_length : ∀ {ks : List CK} {a b : List V} {r : Bool}, eqss ks a b = some r → a.length = ks.length ∧ b.length = ks.length
  | [], [], [], _, _ => ⟨rfl, rfl⟩
  | c :: ks, a :: x, b :: y, r, h => by
    simp only [eqss] at h
    split at h
    · rename_i p q hp hq
      have := eqss_length hq
      simp [this.1, this.2]
    · cases h
  | [], _ :: _, _, _, h => by simp [eqss] at h
  | [], [], _ :: _, _, h => by simp [eqss] at h
  | _ :: _, [], _, _, h => by simp [eqss] at h
  | _ :: _, _ :: _, [], _, h => by simp [eqss] at h
theorem plain_size {d : Nat} {t : TypeId} {ks : List CK} (h : plainTy P d t = some ks) : ∃ i e, P.info? t = some i ∧ P.underlying t = some e ∧ i.size = ks.length ∧
    (isAggD e = false → i.size = 1) := by
  cases d with
  | zero => simp [plainTy] at h
  | succ d =>
    unfold plainTy at h
    split at h
    · rename_i k i hu hi; split at h <;> cases h; rename_i hz; exact ⟨i, _, hi, hu, by simpa using hz, fun _ => hz⟩
    · rename_i i hu hi; split at h <;> cases h; rename_i hz; exact ⟨i, _, hi, hu, by simpa using hz, fun _ => hz⟩
    · rename_i i hu hi; split at h <;> cases h; rename_i hz; exact ⟨i, _, hi, hu, by simpa using hz, fun _ => hz⟩
    · rename_i fs i hu hi
      split at h
      · split at h
        · rename_i hz
          cases h
          simp only [Bool.and_eq_true, decide_eq_true_eq] at hz
          exact ⟨i, _, hi, hu, hz.2.symm, fun e => by cases e⟩
        · cases h
      · cases h
    · rename_i n e i hu hi
      split at h
      · split at h
        · rename_i hz
          cases h
          exact ⟨i, _, hi, hu, by simp [← hz], fun e => by cases e⟩
        · cases h
      · cases h
    · cases h
theorem part_run {t : TypeId} {i : TypeInfo} {e : TypeDesc} (hi : P.info? t = some i) (hu : P.underlying t = some e) (hone : isAggD e = false → i.size = 1) (xs : List Value) (off : Nat) (h : off + i.size ≤ xs.length)
    (w : World) : (part t ⟨xs⟩ off).run P w = .ok (valOf P t ((xs.drop off).take i.size)) w := by
  unfold part
  simp only [Sem.run_bind, run_isAgg hu, Result.andThen_ok]
  cases hagg : isAggD e with
  | true =>
    simp only [if_true, Sem.run_bind, run_sizeOf' hi, Result.andThen_ok, Sem.run_pure, valOf, hu, hagg]
    congr 2
    apply Array.ext'
    simp
  | false =>
    have h1 := hone hagg
    have hlt : off < xs.length := by omega
    simp only [Bool.false_eq_true, if_false, valOf, hu, hagg, h1]
    have : (⟨xs⟩ : Array Value)[off]? = some xs[off] := by simp [hlt]
    rw [this]
    have e2 : ((xs.drop off).take 1).headD undef = xs[off] := by
      rw [List.drop_eq_getElem_cons hlt]; rfl
    rw [e2]
    rfl
theorem equal_plain : ∀ (d : Nat) (t : TypeId) (ks : List CK), plainTy P d t = some ks → ∀ (D : Nat), d ≤ D → ∀ (xs ys : List V) (r : Bool), eqss ks xs ys = some r →
    ∀ (xs' ys' : List Value), VRs m xs xs' → VRs m ys ys' → ∀ w, (Op.equalIn D t (valOf P t xs') (valOf P t ys')).run P w = .ok r w := by
  intro d
  induction d with
  | zero => intro t ks h; simp [plainTy] at h
  | succ d ih =>
    intro t ks h D hD xs ys r he xs' ys' hx hy w
    obtain ⟨D, rfl⟩ : ∃ D', D = D' + 1 := ⟨D - 1, by omega⟩
    have one : ∀ c, ks = [c] → (∃ e, P.underlying t = some e ∧ isAggD e = false) → CkTy P t c →
        (Op.equalIn (D + 1) t (valOf P t xs') (valOf P t ys')).run P w = .ok r w := by
      rintro c rfl ⟨e, hu, hagg⟩ hc
      obtain ⟨l1, l2⟩ := eqss_length he
      match xs, l1, ys, l2, he, hx, hy with
      | [a], _, [b], _, he, .cons ha .nil, .cons hb .nil =>
        simp only [eqss] at he
        split at he
        · rename_i p q hp hq
          cases hq
          cases he
          simp only [valOf, hu, hagg, Bool.false_eq_true, if_false, List.headD_cons, Bool.and_true]
          exact eqs_run hp ha hb D t w hc
        · cases he
    unfold plainTy at h
    split at h
    · rename_i k i hu hi; split at h <;> cases h; exact one .i rfl ⟨_, hu, rfl⟩ ⟨k, hu⟩
    · rename_i i hu hi; split at h <;> cases h; exact one .b rfl ⟨_, hu, rfl⟩ hu
    · rename_i i hu hi; split at h <;> cases h; exact one .s rfl ⟨_, hu, rfl⟩ hu
    · -- a struct
      rename_i fs i hu hi
      clear one
      split at h
      case h_2 => cases h
      rename_i ks' hks
      split at h
      case isFalse => cases h
      rename_i hz
      cases h
      simp only [Bool.and_eq_true, decide_eq_true_eq, Bool.not_eq_true'] at hz
      have hf : P.fieldsOf t = fs := by simp [Program.fieldsOf, hu]
      simp only [valOf, hu, isAggD, if_true]
      rw [run_equalIn_agg w D t _ _ (by rw [hf]; exact hu) hz.1, hf]
      have key : ∀ (l : List Field) (o : Nat) (kl : List CK), plainTy.plainFs P (plainTy P d) l o = some kl → ∀ (px qx py qy : List V) (px' qx' py' qy' : List Value) (r : Bool),
          px.length = o → py.length = o → eqss kl qx qy = some r → VRs m px px' → VRs m py py' → VRs m qx qx' → VRs m qy qy' →
          (Op.eqFields D ⟨px' ++ qx'⟩ ⟨py' ++ qy'⟩ l).run P w = .ok r w := by
        intro l
        induction l with
        | nil =>
          intro o kl hkl px qx py qy px' qx' py' qy' r _ _ hr _ _ _ _
          simp only [plainTy.plainFs, Option.some.injEq] at hkl
          subst hkl
          match qx, qy, hr with
          | [], [], hr => simp only [eqss, Option.some.injEq] at hr; subst hr; rfl
        | cons f l ihl =>
          intro o kl hkl px qx py qy px' qx' py' qy' r h1 h2 hr v1 v2 v3 v4
          simp only [plainTy.plainFs] at hkl
          split at hkl
          · cases hkl
          · rename_i kf hkf
            split at hkl
            · cases hkl
            · rename_i kr hkr
              split at hkl
              case isFalse => cases hkl
              rename_i hc
              cases hkl
              simp only [Bool.and_eq_true, decide_eq_true_eq, ne_eq] at hc
              obtain ⟨j, e, hj, hue, hsz, hone⟩ := plain_size hkf
              obtain ⟨l1, l2⟩ := eqss_length hr
              simp only [List.length_append] at l1 l2
              have c1 := v3.length
              have c2 := v4.length
              have p1 := v1.length
              have p2 := v2.length
              have sx : qx = qx.take kf.length ++ qx.drop kf.length := (List.take_append_drop _ _).symm
              have sy : qy = qy.take kf.length ++ qy.drop kf.length := (List.take_append_drop _ _).symm
              rw [sx, sy] at hr
              obtain ⟨p, q, e1, e2, rfl⟩ := eqss_append (by simp; omega) (by simp; omega) hr
              have ne : f.name ≠ "_" := by simpa using hc.1
              simp only [Op.eqFields, if_pos ne, Sem.run_bind]
              rw [hc.2, part_run hj hue hone _ _ (by simp; omega), Result.andThen_ok, part_run hj hue hone _ _ (by simp; omega), Result.andThen_ok]
              have d1 : List.take j.size (List.drop o (px' ++ qx')) = qx'.take kf.length := by rw [hsz, List.drop_append_of_le_length (by omega), List.drop_of_length_le (by omega)]; simp
              have d2 : List.take j.size (List.drop o (py' ++ qy')) = qy'.take kf.length := by rw [hsz, List.drop_append_of_le_length (by omega), List.drop_of_length_le (by omega)]; simp
              rw [d1, d2, ih f.type kf hkf D (by omega) _ _ p e1 _ _ (v3.take _) (v4.take _) w, Result.andThen_ok]
              cases p with
              | false => simp
              | true =>
                simp only [Bool.not_true, Bool.false_eq_true, if_false, Bool.true_and]
                have := ihl (o + kf.length) kr hkr (px ++ qx.take kf.length) (qx.drop kf.length) (py ++ qy.take kf.length) (qy.drop kf.length)
                  (px' ++ qx'.take kf.length) (qx'.drop kf.length) (py' ++ qy'.take kf.length) (qy'.drop kf.length) q (by simp; omega) (by simp; omega) e2
                  (v1.append (v3.take _)) (v2.append (v4.take _)) (v3.drop _) (v4.drop _)
                simpa [List.append_assoc] using this
      simpa using key fs.toList 0 ks hks [] xs [] ys [] xs' [] ys' r rfl rfl he .nil .nil hx hy
    · -- an array
      rename_i n e i hu hi
      clear one
      split at h
      case h_2 => cases h
      rename_i kf hkf
      split at h
      case isFalse => cases h
      rename_i hz
      cases h
      obtain ⟨j, de, hj, hue, hsz, hone⟩ := plain_size hkf
      simp only [valOf, hu, isAggD, if_true]
      simp only [Op.equalIn, Sem.run_bind, run_underlying' hu, Result.andThen_ok, run_sizeOf' hj]
      have key : ∀ (k : Nat) (s : Nat) (px qx py qy : List V) (px' qx' py' qy' : List Value) (r : Bool),
          px.length = s * kf.length → py.length = s * kf.length → eqss (List.replicate k kf).flatten qx qy = some r → VRs m px px' → VRs m py py' → VRs m qx qx' → VRs m qy qy' →
          (forIn (List.range' s k) ((none : Option Bool), ()) fun i _ => (do
              let a ← part e ⟨px' ++ qx'⟩ (i * j.size)
              let b ← part e ⟨py' ++ qy'⟩ (i * j.size)
              let r ← Op.equalIn D e a b
              if (!r) = true then pure (ForInStep.done (some false, ())) else pure (ForInStep.yield (none, ())) : Sem (ForInStep (Option Bool × Unit)))).run P w = .ok ((if r then none else some false), ()) w := by
        intro k
        induction k with
        | zero =>
          intro s px qx py qy px' qx' py' qy' r _ _ hr _ _ _ _
          match qx, qy, hr with
          | [], [], hr => simp only [List.replicate_zero, List.flatten_nil, eqss, Option.some.injEq] at hr; subst hr; simp
        | succ k ihk =>
          intro s px qx py qy px' qx' py' qy' r h1 h2 hr v1 v2 v3 v4
          rw [List.replicate_succ, List.flatten_cons] at hr
          obtain ⟨l1, l2⟩ := eqss_length hr
          simp only [List.length_append] at l1 l2
          have c1 := v3.length
          have c2 := v4.length
          have p1 := v1.length
          have p2 := v2.length
          have sx : qx = qx.take kf.length ++ qx.drop kf.length := (List.take_append_drop _ _).symm
          have sy : qy = qy.take kf.length ++ qy.drop kf.length := (List.take_append_drop _ _).symm
          rw [sx, sy] at hr
          obtain ⟨p, q, e1, e2, rfl⟩ := eqss_append (by simp; omega) (by simp; omega) hr
          have ho : s * j.size = s * kf.length := by rw [hsz]
          simp only [List.range'_succ, List.forIn_cons, Sem.run_bind]
          rw [ho, part_run hj hue hone _ _ (by simp; omega), Result.andThen_ok, part_run hj hue hone _ _ (by simp; omega), Result.andThen_ok]
          have d1 : List.take j.size (List.drop (s * kf.length) (px' ++ qx')) = qx'.take kf.length := by rw [hsz, List.drop_append_of_le_length (by omega), List.drop_of_length_le (by omega)]; simp
          have d2 : List.take j.size (List.drop (s * kf.length) (py' ++ qy')) = qy'.take kf.length := by rw [hsz, List.drop_append_of_le_length (by omega), List.drop_of_length_le (by omega)]; simp
          rw [d1, d2, ih e kf hkf D (by omega) _ _ p e1 _ _ (v3.take _) (v4.take _) w, Result.andThen_ok]
          cases p with
          | false => simp
          | true =>
            have := ihk (s + 1) (px ++ qx.take kf.length) (qx.drop kf.length) (py ++ qy.take kf.length) (qy.drop kf.length)
              (px' ++ qx'.take kf.length) (qx'.drop kf.length) (py' ++ qy'.take kf.length) (qy'.drop kf.length) q (by simp [Nat.succ_mul]; omega) (by simp [Nat.succ_mul]; omega) e2
              (v1.append (v3.take _)) (v2.append (v4.take _)) (v3.drop _) (v4.drop _)
            simpa [List.append_assoc] using this
      have := key n 0 [] xs [] ys [] xs' [] ys' r (by simp) (by simp) he .nil .nil hx hy
      simp only [List.nil_append] at this
      have e0 : (Std.Legacy.Range.mk 0 n 1 (by omega)).size = n := by simp [Std.Legacy.Range.size]
      rw [Std.Legacy.Range.forIn_eq_forIn_range', e0, this]
      cases r <;> rfl
    · cases h
end
end Go.Ax
end
section
set_option linter.unusedSectionVars false
namespace Go.Ax
variable [Globs]
open Go.RowKit
section
variable {P : Program} {m : GM}
theorem valOf_agg {t : TypeId} {d : TypeDesc} (hu : P.underlying t = some d) (h : isAggD d = true) (xs : List Value) : valOf P t xs = .agg ⟨xs⟩ := by simp [valOf, hu, h]
theorem equalIn_run (D : Nat) (hD : 100 ≤ D + 1) {t : TypeId} {q : EqK} (hq : eqOf P t = some q) {a b : V} {r : Bool} (h : eqk q a b = some r) {x y : Value} (hx : VR m a x) (hy : VR m b y) (w : World) :
    (Op.equalIn (D + 1) t x y).run P w = .ok r w := by
  unfold eqOf at hq
  split at hq
  · rename_i hu; cases hq; exact eqs_run h hx hy D t w hu
  · rename_i k hu; cases hq; exact eqs_run h hx hy D t w ⟨k, hu⟩
  · rename_i hu; cases hq; exact eqs_run h hx hy D t w hu
  · rename_i e hu; cases hq
    unfold eqk at h
    split at h <;> first | (cases h; done) | skip
    all_goals first | (rename_i heq; cases heq; done) | skip
    all_goals (cases h; cases hx; cases hy; simp [Op.equalIn, run_underlying' hu])
  · rename_i e hu; cases hq
    unfold eqk at h
    split at h <;> first | (cases h; done) | skip
    all_goals first | (rename_i heq; cases heq; done) | skip
    all_goals (cases h; cases hx <;> cases hy <;> simp [Op.equalIn, run_underlying' hu])
  · rename_i e hu; cases hq
    unfold eqk at h
    split at h <;> first | (cases h; done) | skip
    all_goals first | (rename_i heq; cases heq; done) | skip
    all_goals (cases h; cases hx; cases hy; simp [Op.equalIn, run_underlying' hu])
  · rename_i e hu; cases hq
    unfold eqk at h
    split at h <;> first | (cases h; done) | skip
    all_goals first | (rename_i heq; cases heq; done) | skip
    all_goals (cases h; cases hx; cases hy; simp [Op.equalIn, run_underlying' hu])
  · rename_i fs hu
    split at hq
    · cases hq
    · cases hp : plainTy P 100 t with
      | none => simp [hp] at hq
      | some ks =>
        simp only [hp, Option.map_some, Option.some.injEq] at hq
        subst hq
        unfold eqk at h
        split at h <;> first | (cases h; done) | skip
        all_goals first | (rename_i heq; cases heq; done) | skip
        rename_i heq
        cases heq
        cases hx with
        | agg hx => cases hy with
          | agg hy =>
            have := equal_plain 100 t ks hp (D + 1) (by omega) _ _ r h _ _ hx hy w
            rwa [valOf_agg hu rfl, valOf_agg hu rfl] at this
  · rename_i n e hu
    split at hq
    · cases hq
    · cases hp : plainTy P 100 t with
      | none => simp [hp] at hq
      | some ks =>
        simp only [hp, Option.map_some, Option.some.injEq] at hq
        subst hq
        unfold eqk at h
        split at h <;> first | (cases h; done) | skip
        all_goals first | (rename_i heq; cases heq; done) | skip
        rename_i heq
        cases heq
        cases hx with
        | agg hx => cases hy with
          | agg hy =>
            have := equal_plain 100 t ks hp (D + 1) (by omega) _ _ r h _ _ hx hy w
            rwa [valOf_agg hu rfl, valOf_agg hu rfl] at this
  · cases hq
theorem equal_run {t : TypeId} {q : EqK} (hq : eqOf P t = some q) {a b : V} {r : Bool} (h : eqk q a b = some r) {x y : Value} (hx : VR m a x) (hy : VR m b y) (w : World) :
    (Op.equal t x y).run P w = .ok r w := equalIn_run 9999 (by omega) hq h hx hy w
end
end Go.Ax
end
section
set_option linter.unusedSectionVars false
namespace Go.Ax
variable [Globs]
open Go.RowKit
section
variable {P : Program} {m : GM} {ρ : Opd → V} {ρc : Operand → Value} {w : World}
def PureOk (P : Program) (m : GM) (ρc : Operand → Value) (w : World) (o : Oper) (v : V) : Prop := ∃ x, (execOp ρc o).run P w = .ok (.value x) w ∧ VR m v x
theorem lo_run {n d : Nat} {x : Option Operand} {y : Option Opd} (hxy : oopd x = some y) (ho : OR m ρ ρc) {r : Nat} (h : lo? ρ n d y = some r) :
    (x = none ∧ y = none ∧ r = d) ∨ ∃ z k i, x = some z ∧ ρc z = .int k i ∧ y.isSome = true ∧ 0 ≤ i ∧ i ≤ n ∧ r = i.toNat := by
  cases x with
  | none =>
    simp only [oopd, Option.some.injEq] at hxy
    subst hxy
    simp only [lo?, Option.some.injEq] at h
    exact Or.inl ⟨rfl, rfl, h.symm⟩
  | some z =>
    simp only [oopd] at hxy
    cases hz : opd z with
    | none => simp [hz] at hxy
    | some u =>
      simp only [hz, Option.map_some, Option.some.injEq] at hxy
      subst hxy
      have hv := ho z u hz
      simp only [lo?] at h
      split at h
      · rename_i k i hi
        split at h
        · rename_i hb
          cases h
          rw [hi] at hv
          cases hv' : ρc z <;> rw [hv'] at hv <;> cases hv
          exact Or.inr ⟨z, _, _, rfl, hv', rfl, hb.1, hb.2, rfl⟩
        · cases h
      · cases h
theorem sliceBound_run {k : IntKind} {i : Int} {y : Nat} {code : BoundsCode} (h0 : 0 ≤ i) (h1 : i ≤ y) : (Instr.sliceBound (.int k i) y code).run P w = .ok i.toNat w := by
  simp [Instr.sliceBound, asIntOf, h0, h1]
theorem bounds_run {n cap : Nat} {lo hi mx : Option Operand} {lo' hi' mx' : Option Opd} (hlo : oopd lo = some lo') (hhi : oopd hi = some hi') (hmx : oopd mx = some mx') (ho : OR m ρ ρc)
    (hn : n ≤ cap) {l hh mm : Nat} (h : bounds ρ n lo' hi' mx' = some (l, hh, mm)) (isS : Bool) :
    (Instr.sliceBounds isS n cap (lo.map ρc) (hi.map ρc) (mx.map ρc)).run P w = .ok (l, hh, if mx'.isSome then mm else cap) w ∧ l ≤ hh ∧ hh ≤ n ∧ (mx'.isSome = true → mm ≤ n ∧ hh ≤ mm) := by
  unfold bounds at h
  split at h
  · cases h
  rename_i hne
  split at h
  · cases h
  rename_i m' hm'
  split at h
  · cases h
  rename_i h' hh'
  split at h
  · cases h
  rename_i l' hl'
  cases h
  rcases lo_run hmx ho hm' with ⟨rfl, rfl, rfl⟩ | ⟨zm, km, im, rfl, em, hsm, m0, m1, rfl⟩
  · simp only [Option.isSome_none, Bool.false_eq_true, if_false] at hh' ⊢
    rcases lo_run hhi ho hh' with ⟨rfl, rfl, rfl⟩ | ⟨zh, kh, ih, rfl, eh, _, h0, h1, rfl⟩
    · rcases lo_run hlo ho hl' with ⟨rfl, rfl, rfl⟩ | ⟨zl, kl, il, rfl, el, _, l0, l1, rfl⟩
      · exact ⟨by simp [Instr.sliceBounds], by omega, by omega, by simp⟩
      · refine ⟨?_, by omega, by omega, by simp⟩
        simp [Instr.sliceBounds, el, sliceBound_run l0 l1]
    · have h1' : ih ≤ (cap : Int) := by omega
      rcases lo_run hlo ho hl' with ⟨rfl, rfl, rfl⟩ | ⟨zl, kl, il, rfl, el, _, l0, l1, rfl⟩
      · refine ⟨?_, by omega, by omega, by simp⟩
        simp [Instr.sliceBounds, eh, sliceBound_run h0 h1']
      · refine ⟨?_, by omega, by omega, by simp⟩
        simp [Instr.sliceBounds, eh, sliceBound_run h0 h1', el, sliceBound_run l0 l1]
  · simp only [hsm, if_true] at hh' ⊢
    have m1' : im ≤ (cap : Int) := by omega
    rcases lo_run hhi ho hh' with ⟨rfl, rfl, rfl⟩ | ⟨zh, kh, ih, rfl, eh, _, h0, h1, rfl⟩
    · cases mx' with
      | none => cases hsm
      | some u => exact absurd rfl (hne u rfl)
    · rcases lo_run hlo ho hl' with ⟨rfl, rfl, rfl⟩ | ⟨zl, kl, il, rfl, el, _, l0, l1, rfl⟩
      · refine ⟨?_, by omega, by omega, fun _ => ⟨by omega, by omega⟩⟩
        simp [Instr.sliceBounds, em, sliceBound_run m0 m1', eh, sliceBound_run h0 h1]
      · refine ⟨?_, by omega, by omega, fun _ => ⟨by omega, by omega⟩⟩
        simp [Instr.sliceBounds, em, sliceBound_run m0 m1', eh, sliceBound_run h0 h1, el, sliceBound_run l0 l1]
theorem mini_run {k : IntKind} : ∀ {ys : List V} {xs : List Value} {a r : Int}, mini k a ys = some r → VRs m ys xs → (xs.foldlM Builtin.min2 (.int k a)).run P w = .ok (.int k r) w
  | [], _, a, r, h, .nil => by simp only [mini, Option.some.injEq] at h; subst h; simp
  | v :: ys, _, a, r, h, .cons hv hs => by
    unfold mini at h
    split at h
    · rename_i heq; cases heq
    · rename_i j b r' heq
      cases heq
      split at h
      · rename_i hk
        cases hv
        have e : (Builtin.min2 (.int k a) (.int j b)).run P w = .ok (.int k (if b < a then b else a)) w := by simp [Builtin.min2]
        simp only [List.foldlM_cons, Sem.run_bind, e, Result.andThen_ok]
        exact mini_run h hs
      · cases h
    · cases h
theorem maxi_run {k : IntKind} : ∀ {ys : List V} {xs : List Value} {a r : Int}, maxi k a ys = some r → VRs m ys xs → (xs.foldlM Builtin.max2 (.int k a)).run P w = .ok (.int k r) w
  | [], _, a, r, h, .nil => by simp only [maxi, Option.some.injEq] at h; subst h; simp
  | v :: ys, _, a, r, h, .cons hv hs => by
    unfold maxi at h
    split at h
    · rename_i heq; cases heq
    · rename_i j b r' heq
      cases heq
      split at h
      · rename_i hk
        cases hv
        have e : (Builtin.max2 (.int k a) (.int j b)).run P w = .ok (.int k (if b > a then b else a)) w := by simp [Builtin.max2]
        simp only [List.foldlM_cons, Sem.run_bind, e, Result.andThen_ok]
        exact maxi_run h hs
      · cases h
    · cases h
theorem pickAgg_run {t : TypeId} {g : Bool} {n : Nat} (ha : aggOf P t = some (g, n)) {cs : List V} {xs : List Value} (h : VRs m cs xs) {off : Nat} {v : V} (hp : pickAgg g cs off n = some v) :
    ∃ x, (part t ⟨xs⟩ off).run P w = .ok x w ∧ VR m v x := by
  obtain ⟨d, i, hu, hi, rfl, rfl⟩ := aggOf_spec ha
  unfold pickAgg at hp
  simp only [part, Sem.run_bind, run_isAgg hu, Result.andThen_ok]
  cases hg : isAggD d with
  | true =>
    simp only [hg, if_true] at hp ⊢
    split at hp
    · cases hp
      simp only [Sem.run_bind, run_sizeOf' hi, Result.andThen_ok, Sem.run_pure]
      refine ⟨_, rfl, ?_⟩
      have : (⟨xs⟩ : Array Value).extract off (off + i.size) = ⟨(xs.drop off).take i.size⟩ := by
        apply Array.ext'
        simp
      rw [this]
      exact .agg ((h.drop off).take i.size)
    · cases hp
  | false =>
    simp only [hg, Bool.false_eq_true, if_false] at hp ⊢
    obtain ⟨x, hx, hv⟩ := h.get hp
    refine ⟨x, ?_, hv⟩
    have : (⟨xs⟩ : Array Value)[off]? = some x := by simpa using hx
    rw [this]
    rfl
theorem bin_sound {op : BinOp} {t : TypeId} {x y : Operand} {x' y' : Opd} (hx : opd x = some x') (hy : opd y = some y') {io : IOp} (hc : compBin P op t x' y' = some io) (ho : OR m ρ ρc) {v : V}
    (hv : puO io ρ = some v) : ∃ z, (do eqGuard op t x y (ρc x) (ρc y); binOp op t (ρc x) (ρc y) : Sem Value).run P w = .ok z w ∧ VR m v z := by
  have vx := ho x x' hx
  have vy := ho y y' hy
  have main : puO (.bin op x' y') ρ = some v → ∃ z, (do eqGuard op t x y (ρc x) (ρc y); binOp op t (ρc x) (ρc y) : Sem Value).run P w = .ok z w ∧ VR m v z := by
    intro h
    simp only [puO] at h
    split at h
    · rename_i k a j b e1 e2
      rw [e1] at vx
      rw [e2] at vy
      cases h1 : ρc x <;> rw [h1] at vx <;> cases vx
      cases h2 : ρc y <;> rw [h2] at vy <;> cases vy
      obtain ⟨z, hz, hr⟩ := run_binI (P := P) (w := w) (t := t) h
      refine ⟨z, ?_, hr m⟩
      have g : (eqGuard op t x y (.int k a) (.int j b)).run P w = .ok () w := by unfold eqGuard; split <;> rfl
      simp [g, hz]
    · rename_i a b e1 e2
      rw [e1] at vx
      rw [e2] at vy
      cases h1 : ρc x <;> rw [h1] at vx <;> cases vx
      cases h2 : ρc y <;> rw [h2] at vy <;> cases vy
      obtain ⟨z, hz, hr⟩ := run_binS (P := P) (w := w) (t := t) h
      refine ⟨z, ?_, hr m⟩
      rename_i s1 s2
      have g : (eqGuard op t x y (.string s1) (.string s2)).run P w = .ok () w := by unfold eqGuard; split <;> rfl
      simp [g, hz]
    · cases h
  unfold compBin at hc
  split at hc
  · rename_i hop
    split at hc
    · cases hc; exact main hv
    · cases hc; exact main hv
    · rename_i n1 n2
      cases hq : eqOf P t with
      | none => simp [hq] at hc
      | some q =>
        simp only [hq, Option.map_some, Option.some.injEq] at hc
        subst hc
        simp only [puO] at hv
        cases hk : eqk q (ρ x') (ρ y') with
        | none => simp [hk] at hv
        | some r =>
          simp only [hk, Option.map_some, Option.some.injEq] at hv
          have he := equal_run (P := P) hq hk vx vy w
          have go : (eqGuard op t x y (ρc x) (ρc y)).run P w = .ok () w → (binOp .eql t (ρc x) (ρc y) = (do pure (.bool (← Op.equal t (ρc x) (ρc y))) : Sem Value)) →
              (binOp .neq t (ρc x) (ρc y) = (do pure (.bool (!(← Op.equal t (ρc x) (ρc y)))) : Sem Value)) → ∃ z, (do eqGuard op t x y (ρc x) (ρc y); binOp op t (ρc x) (ρc y) : Sem Value).run P w = .ok z w ∧ VR m v z := by
            intro hg h1 h2
            cases op <;> first | (cases hop; done) | skip
            · simp only at hv
              refine ⟨.bool r, ?_, ?_⟩
              · simp only [Sem.run_bind, hg, Result.andThen_ok, h1, he, Sem.run_pure]
              · subst hv; exact .bool r
            · simp only at hv
              refine ⟨.bool (!r), ?_, ?_⟩
              · simp only [Sem.run_bind, hg, Result.andThen_ok, h2, he, Sem.run_pure]
              · subst hv; exact .bool _
          unfold eqOf at hq
          split at hq
          · cases hq
            cases h1 : ρ x' <;> rw [h1] at hk <;> try (simp [eqk, eqs] at hk; done)
            cases h2 : ρ y' <;> rw [h2] at hk <;> try (simp [eqk, eqs] at hk; done)
            rw [h1] at vx; rw [h2] at vy
            cases h3 : ρc x <;> rw [h3] at vx <;> cases vx
            cases h4 : ρc y <;> rw [h4] at vy <;> cases vy
            rw [h3, h4] at go
            exact go (by cases op <;> rfl) rfl rfl
          · rename_i k hu; exact absurd hu (n1 k)
          · rename_i hu; exact absurd hu n2
          · cases hq
            cases h1 : ρ x' <;> rw [h1] at hk <;> try (simp [eqk] at hk; done)
            all_goals cases h2 : ρ y' <;> rw [h2] at hk <;> try (simp [eqk] at hk; done)
            all_goals (rw [h1] at vx; rw [h2] at vy; cases h3 : ρc x <;> rw [h3] at vx <;> cases vx)
            all_goals (cases h4 : ρc y <;> rw [h4] at vy <;> cases vy)
            all_goals (rw [h3, h4] at go; exact go (by cases op <;> rfl) rfl rfl)
          · cases hq
            cases h1 : ρ x' <;> rw [h1] at hk <;> try (simp [eqk] at hk; done)
            all_goals cases h2 : ρ y' <;> rw [h2] at hk <;> try (simp [eqk] at hk; done)
            all_goals (rw [h1] at vx; rw [h2] at vy; cases h3 : ρc x <;> rw [h3] at vx <;> cases vx)
            all_goals (cases h4 : ρc y <;> rw [h4] at vy <;> cases vy)
            all_goals (rw [h3, h4] at go; exact go (by cases op <;> rfl) rfl rfl)
          · cases hq
            cases h1 : ρ x' <;> rw [h1] at hk <;> try (simp [eqk] at hk; done)
            all_goals cases h2 : ρ y' <;> rw [h2] at hk <;> try (simp [eqk] at hk; done)
            all_goals (rw [h1] at vx; rw [h2] at vy; cases h3 : ρc x <;> rw [h3] at vx <;> cases vx)
            all_goals (cases h4 : ρc y <;> rw [h4] at vy <;> cases vy)
            all_goals (rw [h3, h4] at go; exact go (by cases op <;> rfl) rfl rfl)
          · cases hq
            cases h1 : ρ x' <;> rw [h1] at hk <;> try (simp [eqk] at hk; done)
            all_goals cases h2 : ρ y' <;> rw [h2] at hk <;> try (simp [eqk] at hk; done)
            all_goals (rw [h1] at vx; rw [h2] at vy; cases h3 : ρc x <;> rw [h3] at vx <;> cases vx)
            all_goals (cases h4 : ρc y <;> rw [h4] at vy <;> cases vy)
            all_goals (rw [h3, h4] at go; exact go (by cases op <;> rfl) rfl rfl)
          all_goals first | (cases hq; done) | skip
          all_goals
            split at hq
            · cases hq
            · rename_i hgt
              cases hp : plainTy P 100 t with
              | none => simp [hp] at hq
              | some ks =>
                simp only [hp, Option.map_some, Option.some.injEq] at hq
                subst hq
                cases h1 : ρ x' <;> rw [h1] at hk <;> try (simp [eqk] at hk; done)
                cases h2 : ρ y' <;> rw [h2] at hk <;> try (simp [eqk] at hk; done)
                rw [h1] at vx; rw [h2] at vy
                cases h3 : ρc x <;> rw [h3] at vx <;> cases vx
                cases h4 : ρc y <;> rw [h4] at vy <;> cases vy
                rw [h3, h4] at go
                exact go (run_eqGuard_agg w op t x y _ _ (by simpa using hgt)) rfl rfl
  · cases hc; exact main hv
end
end Go.Ax
end
section
set_option linter.unusedSectionVars false
namespace Go.Ax
variable [Globs]
open Go.RowKit
section
variable {P : Program} {m : GM} {ρ : Opd → V} {ρc : Operand → Value} {w : World}
theorem VR.int_inv {k : IntKind} {n : Int} {x : Value} (h : VR m (.int k n) x) : x = .int k n := by cases h; rfl
theorem VR.bool_inv {b : Bool} {x : Value} (h : VR m (.bool b) x) : x = .bool b := by cases h; rfl
theorem VR.str_inv {s : List UInt8} {x : Value} (h : VR m (.str s) x) : ∃ b : ByteArray, x = .string b ∧ b.data.toList = s := by cases h; exact ⟨_, rfl, rfl⟩
theorem VR.ptr_inv {b o : Nat} {x : Value} (h : VR m (.ptr b o) x) : ∃ s, m b = some s ∧ x = .pointer (some ⟨s.cb, s.co + o, none⟩) := by cases h; exact ⟨_, by assumption, rfl⟩
theorem VR.agg_inv {cs : List V} {x : Value} (h : VR m (.agg cs) x) : ∃ xs, x = .agg ⟨xs⟩ ∧ VRs m cs xs := by cases h; exact ⟨_, rfl, by assumption⟩
theorem VR.tup_inv {cs : List V} {x : Value} (h : VR m (.tup cs) x) : ∃ xs, x = .tuple ⟨xs⟩ ∧ VRs m cs xs := by cases h; exact ⟨_, rfl, by assumption⟩
theorem VR.slice_inv {b o len e : Nat} {cap : Option Nat} {x : Value} (h : VR m (.slice b o len cap e) x) :
    (∃ s c, m b = some s ∧ x = .slice (some ⟨s.cb, s.co + o, none⟩) len c ∧ (∀ c', cap = some c' → c = c') ∧ len ≤ c ∧ o + c * e ≤ s.room) ∨
    (∃ a, len = 0 ∧ (∀ c', cap = some c' → c' = 0) ∧ x = .slice (some a) 0 0) := by
  cases h with
  | slice o len c oc e h hc hl hr => exact Or.inl ⟨_, c, h, rfl, hc, hl, hr⟩
  | slice0 o e oc a hc _ => exact Or.inr ⟨a, rfl, hc, rfl⟩
theorem VR.slice_dom {b o len e : Nat} {cap : Option Nat} {x : Value} (h : VR m (.slice b o len cap e) x) : ∃ s, m b = some s := by
  cases h <;> exact ⟨_, by assumption⟩
theorem fieldOf_spec {s : TypeId} {i : Nat} {f : Field} (h : fieldOf P s i = some f) : ∃ fs, P.underlying s = some (.struct fs) ∧ fs[i]? = some f := by
  unfold fieldOf at h
  split at h
  · rename_i fs hu; exact ⟨fs, hu, h⟩
  · cases h
theorem index_sound {addr : Bool} {t : TypeId} {x i : Operand} {x' i' : Opd} (hx : opd x = some x') (hi : opd i = some i') {io : IOp} (hc : compIndex P addr t x' i' = some io) (ho : OR m ρ ρc) {v : V}
    (hv : puO io ρ = some v) : ∃ z, (if addr then Instr.indexAt t (ρc x) (ρc i) else Instr.index t (ρc x) (ρc i)).run P w = .ok z w ∧ VR m v z := by
  have vx := ho x x' hx
  have vi := ho i i' hi
  unfold compIndex at hc
  split at hc
  · rename_i e hu
    split at hc
    · rename_i j hj
      split at hc
      case isFalse => cases hc
      rename_i ha
      cases hc
      subst ha
      simp only [puO] at hv
      split at hv
      · rename_i b o len cap e' k n e1 e2
        split at hv
        case isFalse => cases hv
        rename_i he
        split at hv
        case isFalse => cases hv
        rename_i hb
        cases hv
        rw [e1] at vx
        rw [e2] at vi
        have h2 := vi.int_inv
        rcases vx.slice_inv with ⟨s, c, hs, h1, _, _, _⟩ | ⟨a, h0, _, _⟩
        · refine ⟨.pointer (some ⟨s.cb, s.co + (o + n.toNat * j.size), none⟩), ?_, .ptr _ hs⟩
          have h3 := hb.2
          simp only [if_true, Instr.indexAt, h2, h1, asIntOf, Sem.run_bind, Sem.run_pure, Result.andThen_ok, run_underlying' hu, run_sizeOf' hj, addr_add, Sem.run_ite]
          simp [hb.1, hb.2, Nat.add_assoc]
        · omega
      · cases hv
    · cases hc
  · rename_i n e hu
    split at hc
    case h_2 => cases hc
    rename_i j d hj hd
    cases hc
    cases addr with
    | true =>
      simp only [if_true, puO] at hv ⊢
      split at hv
      · rename_i b o k z e1 e2
        split at hv
        case isFalse => cases hv
        rename_i hb
        cases hv
        rw [e1] at vx
        rw [e2] at vi
        have h2 := vi.int_inv
        obtain ⟨s, hs, h1⟩ := vx.ptr_inv
        refine ⟨.pointer (some ⟨s.cb, s.co + (o + z.toNat * j.size), none⟩), ?_, .ptr _ hs⟩
        simp only [Instr.indexAt, h2, h1, asIntOf, Sem.run_bind, Sem.run_pure, Result.andThen_ok, run_underlying' hu]
        simp [Instr.sureAddr, hb.1, hb.2, run_sizeOf' hj, addr_add, Nat.add_assoc]
      · cases hv
    | false =>
      simp only [Bool.false_eq_true, if_false, puO] at hv ⊢
      split at hv
      · rename_i cs k z e1 e2
        split at hv
        case isFalse => cases hv
        rename_i hb
        rw [e1] at vx
        rw [e2] at vi
        have h2 := vi.int_inv
        obtain ⟨xs, h1, hxs⟩ := vx.agg_inv
        have ha : aggOf P e = some (isAggD d, j.size) := by simp [aggOf, hd, hj]
        obtain ⟨y, hy, hr⟩ := pickAgg_run (w := w) ha hxs hv
        refine ⟨y, ?_, hr⟩
        simp only [Instr.index, h2, h1, asIntOf, Sem.run_bind, Sem.run_pure, Result.andThen_ok, run_underlying' hu]
        simp only [hb.1, hb.2, and_self, if_true, Sem.run_bind, run_sizeOf' hj, Result.andThen_ok]
        exact hy
      · cases hv
  · rename_i hu
    split at hc
    · cases hc
    · rename_i ha
      cases hc
      simp only [Bool.not_eq_true] at ha
      subst ha
      simp only [Bool.false_eq_true, if_false, puO] at hv ⊢
      split at hv
      · rename_i s k z e1 e2
        split at hv
        case isFalse => cases hv
        rename_i hb
        rw [e1] at vx
        rw [e2] at vi
        have h2 := vi.int_inv
        obtain ⟨bs, h1, hbs⟩ := vx.str_inv
        cases hq : s[z.toNat]? with
        | none => simp [hq] at hv
        | some c =>
          simp only [hq, Option.map_some, Option.some.injEq] at hv
          subst hv
          refine ⟨.int .u8 c.toNat, ?_, .int _ _⟩
          have hlt : z.toNat < bs.size := by
            have := (List.getElem?_eq_some_iff.1 hq).1
            rw [← hbs] at this
            simpa using this
          have e3 : bs[z.toNat]? = some c := by
            rw [← hbs] at hq
            rw [getElem?_pos bs z.toNat hlt]
            rw [List.getElem?_eq_getElem (by simpa using hlt)] at hq
            exact congrArg some (show bs[z.toNat] = c from (by simpa using hq : bs.data[z.toNat] = c))
          simp only [Instr.index, h2, h1, asIntOf, Sem.run_bind, Sem.run_pure, Result.andThen_ok, run_underlying' hu, if_pos hb, e3]
      · cases hv
  · cases hc
theorem slice_sound {t : TypeId} {x : Operand} {lo hi mx : Option Operand} {x' : Opd} {lo' hi' mx' : Option Opd} (hx : opd x = some x') (hlo : oopd lo = some lo') (hhi : oopd hi = some hi') (hmx : oopd mx = some mx')
    {io : IOp} (hc : compSlice P t x' lo' hi' mx' = some io) (ho : OR m ρ ρc) {v : V} (hv : puO io ρ = some v) :
    ∃ z, (Instr.sliceAt t (ρc x) (lo.map ρc) (hi.map ρc) (mx.map ρc)).run P w = .ok z w ∧ VR m v z := by
  have vx := ho x x' hx
  unfold compSlice at hc
  split at hc
  · rename_i e hu
    split at hc
    case h_2 => cases hc
    rename_i j hj
    cases hc
    simp only [puO] at hv
    unfold slcF at hv
    split at hv
    · rename_i b o len cap e' e1
      split at hv
      case isFalse => cases hv
      split at hv
      · cases hv
      rename_i he q l hh mm hb
      obtain rfl := Nat.eq_of_beq_eq_true he
      rw [e1] at vx
      obtain ⟨sd, hsd⟩ := vx.slice_dom
      rcases vx.slice_inv with ⟨s, c, hs, h1, hcap, hlc, hroom⟩ | ⟨a, h0, hcn, h1⟩
      · obtain ⟨hrun, b1, b2, b3⟩ := bounds_run (w := w) (P := P) hlo hhi hmx ho hlc hb true
        have run : (Instr.sliceAt t (ρc x) (lo.map ρc) (hi.map ρc) (mx.map ρc)).run P w =
            .ok (.slice (if (if mx'.isSome then mm else c) = l then some ⟨s.cb, s.co + o, none⟩ else some ⟨s.cb, s.co + o + l * j.size, none⟩) (hh - l) ((if mx'.isSome then mm else c) - l)) w := by
          simp only [Instr.sliceAt, Sem.run_bind, run_underlying' hu, Result.andThen_ok, Instr.slice, h1, hrun, run_sizeOf' hj, Sem.run_pure, Option.map_some, addr_add]
        split at hv
        · rename_i hmn
          simp only [Option.isSome_none, Bool.false_eq_true, if_false] at run
          split at hv
          · cases hv
            refine ⟨_, run, ?_⟩
            by_cases hcl : c = l
            · have : hh - l = 0 := by omega
              rw [this, if_pos hcl, hcl, Nat.sub_self]
              exact .slice0 _ _ _ _ (by simp) hs
            · rw [if_neg hcl]
              have := VR.slice (m := m) (o + l * j.size) (hh - l) (c - l) none j.size hs (by simp) (by omega) (by
                have : (c - l) * j.size + l * j.size = c * j.size := by rw [← Nat.add_mul]; congr 1; omega
                omega)
              simpa [Nat.add_assoc] using this
          · rename_i c0
            cases hv
            obtain rfl := hcap c0 rfl
            refine ⟨_, run, ?_⟩
            by_cases hcl : c = l
            · rw [if_pos hcl, if_pos (by rw [hcl]; simp)]
              exact .slice o (hh - l) (c - l) _ j.size hs (by simp) (by omega) (by subst hcl; simp; omega)
            · have hbq : ¬ (Nat.beq c l = true) := fun e => hcl (Nat.eq_of_beq_eq_true e)
              rw [if_neg hcl, if_neg hbq]
              have := VR.slice (m := m) (o + l * j.size) (hh - l) (c - l) (some (c - l)) j.size hs (by simp) (by omega) (by
                have : (c - l) * j.size + l * j.size = c * j.size := by rw [← Nat.add_mul]; congr 1; omega
                omega)
              simpa [Nat.add_assoc] using this
        · rename_i u
          cases hv
          simp only [Option.isSome_some, if_true] at run b3
          obtain ⟨b4, b5⟩ := b3 trivial
          refine ⟨_, run, ?_⟩
          have hmul : mm * j.size ≤ c * j.size := Nat.mul_le_mul_right _ (by omega)
          by_cases hcl : mm = l
          · rw [if_pos hcl, if_pos (by rw [hcl]; simp)]
            exact .slice o (hh - l) (mm - l) _ j.size hs (by simp) (by omega) (by subst hcl; simp; omega)
          · have hbq : ¬ (Nat.beq mm l = true) := fun e => hcl (Nat.eq_of_beq_eq_true e)
            rw [if_neg hcl, if_neg hbq]
            have := VR.slice (m := m) (o + l * j.size) (hh - l) (mm - l) (some (mm - l)) j.size hs (by simp) (by omega) (by
              have : (mm - l) * j.size + l * j.size = mm * j.size := by rw [← Nat.add_mul]; congr 1; omega
              omega)
            simpa [Nat.add_assoc] using this
      · subst h0
        obtain ⟨hrun, b1, b2, b3⟩ := bounds_run (w := w) (P := P) hlo hhi hmx ho (Nat.le_refl 0) hb true
        have l0 : l = 0 := by omega
        have h0 : hh = 0 := by omega
        subst l0; subst h0
        have run : (Instr.sliceAt t (ρc x) (lo.map ρc) (hi.map ρc) (mx.map ρc)).run P w =
            .ok (.slice (some a) 0 0) w := by
          have e2 : (if mx'.isSome then mm else 0) = 0 := by
            split
            · rename_i hm; have := (b3 hm).1; omega
            · rfl
          simp only [Instr.sliceAt, Sem.run_bind, run_underlying' hu, Result.andThen_ok, Instr.slice, h1, hrun, run_sizeOf' hj, Sem.run_pure, e2]
          simp
        split at hv
        · split at hv
          · cases hv
            exact ⟨_, run, .slice0 _ _ _ _ (by simp) hsd⟩
          · rename_i c0
            cases hv
            exact ⟨_, run, .slice0 _ _ _ _ (fun c e => by cases e; have := hcn c0 rfl; omega) hsd⟩
        · cases hv
          simp only [Option.isSome_some] at b3
          have := (b3 trivial).1
          obtain rfl : mm = 0 := by omega
          exact ⟨_, run, .slice0 _ _ _ _ (fun c e => by cases e; rfl) hsd⟩
    · rename_i e1
      split at hv
      · cases hv
      · rename_i q hb
        cases hv
        obtain ⟨l, hh, mm⟩ := q
        rw [e1] at vx
        cases h1 : ρc x <;> rw [h1] at vx <;> cases vx
        obtain ⟨hrun, b1, b2, b3⟩ := bounds_run (w := w) (P := P) hlo hhi hmx ho (Nat.le_refl 0) hb true
        have e2 : (if mx'.isSome then mm else 0) = 0 := by
          split
          · rename_i hm; have := (b3 hm).1; omega
          · rfl
        refine ⟨.slice none 0 0, ?_, .nilslice⟩
        have l0 : l = 0 := by omega
        have h0 : hh = 0 := by omega
        subst l0; subst h0
        simp only [Instr.sliceAt, Sem.run_bind, run_underlying' hu, Result.andThen_ok, Instr.slice, hrun, run_sizeOf' hj, Sem.run_pure, e2]
        simp
    · cases hv
  · rename_i hu
    split at hc
    case isFalse => cases hc
    rename_i hmn
    cases hc
    simp only [puO] at hv
    unfold slcsF at hv
    split at hv
    case h_2 => cases hv
    rename_i s e1
    split at hv
    · cases hv
    rename_i l hh mm hb
    cases hv
    rw [e1] at vx
    obtain ⟨bs, h1, hbs⟩ := vx.str_inv
    have hsz : s.length = bs.size := by rw [← hbs]; simp
    obtain ⟨hrun, b1, b2, b3⟩ := bounds_run (w := w) (P := P) (mx := none) hlo hhi rfl ho (Nat.le_refl s.length) hb false
    cases mx with
    | some u =>
      simp only [oopd] at hmx
      cases hu2 : opd u with
      | none => simp [hu2] at hmx
      | some u' => simp only [hu2, Option.map_some, Option.some.injEq] at hmx; subst hmx; simp at hmn
    | none =>
      rw [hsz] at hrun
      refine ⟨.string (bs.extract l hh), ?_, ?_⟩
      · simp only [Option.map_none] at hrun
        simp [Instr.sliceAt, run_underlying' hu, Instr.slice, h1, hrun]
      · have : List.drop l (List.take hh s) = (bs.extract l hh).data.toList := by
          rw [← hbs]; simp [List.extract_eq_take_drop, List.drop_take]
        rw [this]
        exact .str _
  · rename_i n e hu
    split at hc
    case h_2 => cases hc
    cases hc
    cases hv
  · cases hc
end
end Go.Ax
end
section
set_option linter.unusedSectionVars false
namespace Go.Ax
variable [Globs]
open Go.RowKit
section
variable {P : Program} {m : GM} {ρ : Opd → V} {ρc : Operand → Value} {w : World}
theorem lift_v {s : Sem Value} {v : V} (h : ∃ z, s.run P w = .ok z w ∧ VR m v z) : ∃ z, (do pure (.value (← s)) : Sem Next).run P w = .ok (.value z) w ∧ VR m v z := by
  obtain ⟨z, h1, h2⟩ := h
  exact ⟨z, by simp [h1], h2⟩
theorem opd_map {x : Operand} {f : Opd → IOp} {io : IOp} (h : (opd x).map f = some io) : ∃ x', opd x = some x' ∧ io = f x' := by
  cases hx : opd x with
  | none => simp [hx] at h
  | some x' => simp only [hx, Option.map_some, Option.some.injEq] at h; exact ⟨x', rfl, h.symm⟩
theorem build_sound {t : TypeId} {ps : List (Nat × Operand)} {io : IOp} (hc : compBuild P t ps = some io) (ho : OR m ρ ρc) {v : V} (hv : puO io ρ = some v) :
    ∃ z, (Instr.build t ⟨ps.map fun p => (p.1, ρc p.2)⟩).run P w = .ok z w ∧ VR m v z := by
  unfold compBuild at hc
  split at hc
  · rename_i z fs hz hu
    obtain ⟨i, zv, hi, hzv, hcv⟩ := zeroOf_spec hz
    split at hc
    case isFalse => cases hc
    rename_i hall
    cases hb : bparts P fs ps with
    | none => simp [hb] at hc
    | some l =>
      simp only [hb, Option.map_some, Option.some.injEq] at hc
      subst hc
      simp only [puO] at hv
      cases hf : fill z.cells (l.map fun p => (p.1, p.2.1, ρ p.2.2)) with
      | none => simp [hf] at hv
      | some cs =>
        simp only [hf, Option.map_some, Option.some.injEq] at hv
        subst hv
        obtain ⟨pl, hpl, hat⟩ := run_places (P := P) w fs.toList (fun f hf => by
          have := List.all_eq_true.1 hall f hf
          cases h : P.info? f.type with
          | none => simp [h] at this
          | some j => exact ⟨j, rfl⟩)
        obtain ⟨r, hr, hrel⟩ := fill_rel (bparts_rel ho fs (fun i => (⟨pl⟩ : Array (Nat × Nat))[i]?) (fun i f j h1 h2 => by simpa using hat i f j (by simpa using h1) h2) hb) (cells := zv.cells) (cv_VR (m := m) hcv).cells hf
        refine ⟨.agg r, ?_, ?_⟩
        · have hpl2 : (fs.mapM (fun f => (do pure (f.offset, ← sizeOf f.type) : Sem (Nat × Nat)))).run P w = .ok ⟨pl⟩ w := by
            rw [Array.mapM_eq_mapM_toList, Sem.run_map, hpl]
            rfl
          simp only [Instr.build, Sem.run_bind, run_zeroValue hi hzv, Result.andThen_ok, run_underlying' hu, hpl2, hr, Sem.run_pure]
        · have := VR.agg (m := m) hrel
          simpa using this
  · rename_i z n e hz hu
    obtain ⟨i, zv, hi, hzv, hcv⟩ := zeroOf_spec hz
    split at hc
    case h_2 => cases hc
    rename_i j hj
    cases hb : aparts j.size ps with
    | none => simp [hb] at hc
    | some l =>
      simp only [hb, Option.map_some, Option.some.injEq] at hc
      subst hc
      simp only [puO] at hv
      cases hf : fill z.cells (l.map fun p => (p.1, p.2.1, ρ p.2.2)) with
      | none => simp [hf] at hv
      | some cs =>
        simp only [hf, Option.map_some, Option.some.injEq] at hv
        subst hv
        obtain ⟨r, hr, hrel⟩ := fill_rel (aparts_rel ho j.size hb) (cells := zv.cells) (cv_VR (m := m) hcv).cells hf
        refine ⟨.agg r, ?_, ?_⟩
        · simp only [Instr.build, Sem.run_bind, run_zeroValue hi hzv, Result.andThen_ok, run_underlying' hu, run_sizeOf' hj, hr, Sem.run_pure]
        · have := VR.agg (m := m) hrel
          simpa using this
  · cases hc
theorem at0 {ats : Array TypeId} {i : Nat} {d : TypeDesc} (h : ats[i]?.bind P.underlying = some d) : ∃ t, ats[i]? = some t ∧ P.underlying t = some d := by
  cases h0 : ats[i]? with
  | none => simp [h0] at h
  | some t => exact ⟨t, rfl, by simpa [h0] using h⟩
theorem callB_sound {b : Builtin} {ats : Array TypeId} {ty : TypeId} {cs : Array Bool} {args : List Opd} {xs : List Value} {io : IOp} (hc : compCallB P b ats args = some io) (hk : kindOf io = .pure)
    (va : VRs m (args.map ρ) xs) {v : V} (hv : puO io ρ = some v) : ∃ x, (builtin b ats ty cs ⟨xs⟩).run P w = .ok (.value x) w ∧ VR m v x := by
  unfold compCallB at hc
  split at hc
  · rename_i x
    match xs, va with
    | [y], .cons vx .nil =>
    split at hc
    · rename_i hu
      cases hc
      obtain ⟨t0, ht0, hu0⟩ := at0 hu
      simp only [puO] at hv
      split at hv
      · rename_i h _; cases h
      · rename_i h _; cases h
      · rename_i s _ e; rw [e] at vx; cases hv
        obtain ⟨bs, rfl, hbs⟩ := vx.str_inv
        refine ⟨.int .i64 bs.size, by simp [builtin, Builtin.len_, ht0, run_underlying' hu0, goInt], ?_⟩
        rw [← hbs]
        simp
        exact .int _ _
      · cases hv
    · rename_i e' hu
      cases hc
      obtain ⟨t0, ht0, hu0⟩ := at0 hu
      simp only [puO] at hv
      split at hv
      · rename_i e; rw [e] at vx; cases hv
        rcases vx.slice_inv with ⟨s, c, hs, rfl, _, _, _⟩ | ⟨a, rfl, _, rfl⟩
        · exact ⟨.int .i64 _, by simp [builtin, Builtin.len_, ht0, run_underlying' hu0, goInt], .int _ _⟩
        · exact ⟨.int .i64 _, by simp [builtin, Builtin.len_, ht0, run_underlying' hu0, goInt], .int _ _⟩
      · rename_i e; rw [e] at vx; cases hv
        cases vx
        exact ⟨.int .i64 0, by simp [builtin, Builtin.len_, ht0, run_underlying' hu0, goInt], .int _ _⟩
      · rename_i h _; cases h
      · cases hv
    · rename_i n e' hu
      cases hc
      obtain ⟨t0, ht0, hu0⟩ := at0 hu
      cases hv
      exact ⟨.int .i64 n, by simp [builtin, Builtin.len_, ht0, run_underlying' hu0, goInt], .int _ _⟩
    · cases hc; cases hk
    · cases hc
  · rename_i x ys
    cases hc
    match xs, va with
    | y :: zs, .cons vx vs =>
    simp only [puO] at hv
    split at hv
    · rename_i k a e; rw [e] at vx
      obtain rfl := vx.int_inv
      cases hm : mini k a (ys.map ρ) with
      | none => simp [hm] at hv
      | some r =>
        simp only [hm, Option.map_some, Option.some.injEq] at hv
        subst hv
        exact ⟨.int k r, by simp [builtin, Builtin.min_, mini_run hm vs], .int _ _⟩
    · cases hv
  · rename_i x ys
    cases hc
    match xs, va with
    | y :: zs, .cons vx vs =>
    simp only [puO] at hv
    split at hv
    · rename_i k a e; rw [e] at vx
      obtain rfl := vx.int_inv
      cases hm : maxi k a (ys.map ρ) with
      | none => simp [hm] at hv
      | some r =>
        simp only [hm, Option.map_some, Option.some.injEq] at hv
        subst hv
        exact ⟨.int k r, by simp [builtin, Builtin.max_, maxi_run hm vs], .int _ _⟩
    · cases hv
  · split at hc
    · split at hc
      · split at hc
        · cases hc; cases hk
        · cases hc
      · cases hc
    · cases hc
  · split at hc
    · split at hc
      · split at hc
        · cases hc; cases hk
        · cases hc
      · cases hc
    · cases hc
  · split at hc
    · cases hc; cases hk
    · cases hc
  · cases hc
theorem pure_sound {o : Oper} {io : IOp} (hc : compOp P o.op = some io) (hk : kindOf io = .pure) (ho : OR m ρ ρc) {v : V} (hv : puO io ρ = some v) : PureOk P m ρc w o v := by
  unfold PureOk
  obtain ⟨dst, op, ty, pos, after, guard⟩ := o
  simp only at hc
  unfold execOp
  cases op <;> simp only [compOp] at hc <;> first | (cases hc; done) | skip
  case move x =>
    obtain ⟨x', hx, rfl⟩ := opd_map hc
    cases hv
    exact ⟨_, rfl, ho x x' hx⟩
  case assign x =>
    obtain ⟨x', hx, rfl⟩ := opd_map hc
    cases hv
    exact ⟨_, rfl, ho x x' hx⟩
  case pick c a b =>
    split at hc
    · rename_i c' a' b' h1 h2 h3
      cases hc
      have vc := ho c c' h1
      simp only [puO] at hv
      split at hv
      · rename_i e; rw [e] at vc; cases hv; exact ⟨ρc a, by simp [vc.bool_inv, asBool], ho a a' h2⟩
      · rename_i e; rw [e] at vc; cases hv; exact ⟨ρc b, by simp [vc.bool_inv, asBool], ho b b' h3⟩
      · cases hv
    · cases hc
  case alloc t =>
    cases hz : zeroOf P t with
    | none => simp [hz] at hc
    | some z => simp only [hz, Option.map_some, Option.some.injEq] at hc; subst hc; cases hk
  case box t x =>
    obtain ⟨x', hx, rfl⟩ := opd_map hc
    cases hk
  case build t ps =>
    have := build_sound (w := w) hc ho hv
    have e : (ps.map fun p => (p.1, ρc p.2)) = ⟨ps.toList.map fun p => (p.1, ρc p.2)⟩ := by apply Array.ext'; simp
    exact lift_v (by rw [← e] at this; exact this)
  case buildSlice t n ps =>
    unfold compBuildS at hc
    split at hc
    · split at hc
      · split at hc
        · cases hc; cases hk
        · cases hc
      · cases hc
    · cases hc
  case load t a =>
    split at hc
    · cases hc; cases hk
    · cases hc
  case store t a x =>
    split at hc
    · split at hc
      · cases hc; cases hk
      · cases hc
    · cases hc
  case nilCheck x =>
    obtain ⟨x', hx, rfl⟩ := opd_map hc
    have vx := ho x x' hx
    simp only [puO] at hv
    split at hv
    · rename_i b o e; rw [e] at vx; cases hv
      obtain ⟨s, hs, h1⟩ := vx.ptr_inv
      exact ⟨.pointer (some ⟨s.cb, s.co + o, none⟩), by simp [h1], .ptr _ hs⟩
    · rename_i f a c e; rw [e] at vx; cases hv
      refine ⟨ρc x, ?_, vx⟩
      cases h1 : ρc x <;> rw [h1] at vx <;> cases vx
      simp [h1]
    · rename_i l e; rw [e] at vx; cases hv
      refine ⟨ρc x, ?_, vx⟩
      cases h1 : ρc x <;> rw [h1] at vx <;> cases vx
      simp [h1]
    · cases hv
  case binOp op t x y yt =>
    split at hc
    · rename_i x' y' hx hy
      exact lift_v (bin_sound hx hy hc ho hv)
    · cases hc
  case unOp op t x =>
    obtain ⟨x', hx, rfl⟩ := opd_map hc
    have vx := ho x x' hx
    simp only [puO] at hv
    split at hv
    · rename_i b e; rw [e] at vx; cases hv
      exact ⟨.bool (!b), by simp [vx.bool_inv, Op.unary], .bool _⟩
    · rename_i k n e; rw [e] at vx; cases hv
      exact ⟨.int k (k.wrap (0 - n)), by simp [vx.int_inv, Op.unary, Op.intArith], .int _ _⟩
    · cases hv
  case convert s d x =>
    split at hc
    · rename_i k1 k2 x' h1 h2 h3
      cases hc
      have vx := ho x x' h3
      simp only [puO] at hv
      split at hv
      · rename_i k n e; rw [e] at vx; cases hv
        exact ⟨.int k2 (k2.wrap n), by simp [convert, run_underlying' h1, run_underlying' h2, vx.int_inv, Conv.intToInt], .int _ _⟩
      · cases hv
    · cases hc
  case makeInterface t x =>
    split at hc
    · cases hc
    · cases hc
    · rename_i h1 h2
      obtain ⟨x', hx, rfl⟩ := opd_map hc
      cases hv
      refine ⟨.iface t (ρc x), ?_, .iface t (ho x x' hx)⟩
      cases hd : P.underlying t with
      | none => exact absurd hd h2
      | some d =>
        cases d <;> first | (rename_i ms; exact absurd hd (h1 ms)) | simp [Instr.makeInterface, run_underlying' hd]
  case makeFunc fn a c =>
    cases fn <;> simp only at hc <;> first | (cases hc; done) | skip
    rename_i f
    split at hc
    · rename_i a' c' h1 h2
      cases hc
      cases hv
      refine ⟨.func (.func f) (a.map ρc) (c.map ρc), rfl, ?_⟩
      have e1 : a.map ρc = ⟨a.toList.map ρc⟩ := by apply Array.ext'; simp
      have e2 : c.map ρc = ⟨c.toList.map ρc⟩ := by apply Array.ext'; simp
      rw [e1, e2]
      exact .func f (ho.list h1) (ho.list h2)
    · cases hc
  case makeMap t r =>
    cases r <;> simp only at hc <;> first | (cases hc; done) | skip
    cases hc; cases hk
  case makeSlice t l c =>
    split at hc
    · split at hc
      · split at hc
        · cases hc; cases hk
        · cases hc
      · cases hc
    · cases hc
  case slice t x lo hi mx =>
    split at hc
    · rename_i x' lo' hi' mx' h1 h2 h3 h4
      exact lift_v (slice_sound h1 h2 h3 h4 hc ho hv)
    · cases hc
  case fieldAddr s x f =>
    split at hc
    · rename_i fd x' h1 h2
      split at hc
      · rename_i j hj
        split at hc
        · rename_i hn
          cases hc
          obtain ⟨fs, hu, hf⟩ := fieldOf_spec h1
          have vx := ho x x' h2
          simp only [puO] at hv
          split at hv
          · rename_i b o e; rw [e] at vx; cases hv
            obtain ⟨s', hs, h3⟩ := vx.ptr_inv
            refine ⟨.pointer (some ⟨s'.cb, s'.co + (o + fd.offset), none⟩), ?_, .ptr _ hs⟩
            simp [Instr.fieldAt, run_underlying' hu, hf, h3, Instr.sureAddr, fieldPlace, run_sizeOf' hj, hn, addr_add, Nat.add_assoc]
          · cases hv
        · cases hc
      · cases hc
    · cases hc
  case field s x f =>
    split at hc
    · rename_i fd x' h1 h2
      split at hc
      · rename_i g n ha
        cases hc
        obtain ⟨fs, hu, hf⟩ := fieldOf_spec h1
        have vx := ho x x' h2
        simp only [puO] at hv
        split at hv
        · rename_i cs e; rw [e] at vx
          obtain ⟨xs, h3, hxs⟩ := vx.agg_inv
          obtain ⟨z, hz, hr⟩ := pickAgg_run (w := w) ha hxs hv
          refine ⟨z, ?_, hr⟩
          simp [Instr.field, run_underlying' hu, hf, h3, asAgg, hz]
        · cases hv
      · cases hc
    · cases hc
  case indexAddr t x i =>
    split at hc
    · rename_i x' i' h1 h2
      have := index_sound (w := w) h1 h2 hc ho hv
      exact lift_v (by simpa using this)
    · cases hc
  case index t x i =>
    split at hc
    · rename_i x' i' h1 h2
      have := index_sound (w := w) h1 h2 hc ho hv
      exact lift_v (by simpa using this)
    · cases hc
  case lookup t a k ok =>
    split at hc
    · cases hc; cases hk
    · cases hc
  case mapUpdate t a k v =>
    split at hc
    · cases hc; cases hk
    · cases hc
  case insert t a k v =>
    split at hc
    · cases hc; cases hk
    · cases hc
  case mapEntry t a k =>
    split at hc
    · cases hc; cases hk
    · cases hc
  case entryStore t a s v =>
    split at hc
    · cases hc; cases hk
    · cases hc
  case range t x =>
    split at hc
    · cases hc; cases hk
    · cases hc
  case next x b =>
    cases b <;> simp only at hc <;> first | (cases hc; done) | skip
    obtain ⟨x', hx, rfl⟩ := opd_map hc
    cases hk
  case extract x i =>
    obtain ⟨x', hx, rfl⟩ := opd_map hc
    have vx := ho x x' hx
    simp only [puO] at hv
    split at hv
    · rename_i vs e; rw [e] at vx
      obtain ⟨xs, h1, hxs⟩ := vx.tup_inv
      obtain ⟨z, hz, hr⟩ := hxs.get hv
      refine ⟨z, ?_, hr⟩
      have : (⟨xs⟩ : Array Value)[i]? = some z := by simpa using hz
      simp [Instr.extract, h1, hz]
    · cases hv
  case call c =>
    unfold compCall at hc
    split at hc
    · cases hc
    rename_i args hargs
    have va := ho.list hargs
    split at hc
    · rename_i f hf
      obtain ⟨x', hx, rfl⟩ := opd_map hc
      cases hk
    · rename_i b hb
      obtain ⟨callee, cargs, ats⟩ := c
      simp only at hb hargs va
      subst hb
      simp only [resolve, Sem.run_bind, Sem.run_pure, Result.andThen_ok, invoke]
      have ec : cargs.map ρc = ⟨cargs.toList.map ρc⟩ := by apply Array.ext'; simp
      rw [ec]
      exact callB_sound hc hk va hv
    · cases hc
end
end Go.Ax
end
section
set_option linter.unusedSectionVars false
namespace Go.Ax
variable [Globs]
open Go.RowKit
section
variable {S : Type → Type} [Rep S] {CR : Nat → ICode → Code → Prop}
variable {P : Program} {m : GM} {ρ : Opd → V} {ρc : Operand → Value} {w : World} {g : Nat → Option (Blk S)}
theorem cell_at {cb i : Nat} {c : Array Value} {el : TypeId} {fz : Nat × Nat} (h : w.heap[cb]? = some (.cells c el fz)) : w.cell? ⟨cb, i, none⟩ = c[i]? := cell_of_row w cb i c el fz h
theorem rdAgg_run (hr : HR CR m g w) {t : TypeId} {b : Bool} {n : Nat} (ha : aggOf P t = some (b, n)) {x o : Nat} {s : Spot} (hm : m x = some s) {v : V} (hv : rdAgg g b x o n = some v) :
    ∃ z, (loadVar t ⟨s.cb, s.co + o, none⟩).run P w = .ok z w ∧ VR m v z := by
  obtain ⟨d, i, hu, hi, rfl, rfl⟩ := aggOf_spec ha
  unfold rdAgg at hv
  simp only [loadVar, Sem.run_bind, run_isAgg hu, Result.andThen_ok]
  cases hg : isAggD d with
  | true =>
    simp only [hg, if_true] at hv ⊢
    cases hrd : rdG g x o i.size with
    | none => simp [hrd] at hv
    | some vs =>
      simp only [hrd, Option.map_some, Option.some.injEq] at hv
      subst hv
      unfold rdG at hrd
      split at hrd
      case h_2 => cases hrd
      rename_i cs a hgx
      split at hrd
      case isFalse => cases hrd
      rename_i hlen
      cases hrd
      obtain ⟨c, el, fz, h1, h2, h3, h4, h5⟩ := hr.blk x s _ hm hgx
      obtain ⟨xs, hxs, hat⟩ := VRs.collect (fun j => c[s.co + o + j]?) ((cs.drop o).take i.size) (fun j v hv => by
        have : cs[o + j]? = some v := by
          rw [List.getElem?_take] at hv
          split at hv
          · simpa [List.getElem?_drop] using hv
          · cases hv
        obtain ⟨_, z, hz, hr⟩ := h2 (o + j) v this
        exact ⟨z, by rw [Nat.add_assoc]; exact hz, hr⟩)
      have hl : xs.length = i.size := by rw [← hxs.length]; simp; omega
      have hrun := run_loadCells_list (P := P) w (⟨s.cb, s.co + o, none⟩ : Addr) xs (fun j v hv => by
        rw [addr_add, cell_at h1]; exact hat j v hv)
      rw [hl] at hrun
      refine ⟨.agg ⟨xs⟩, ?_, .agg hxs⟩
      simp only [Sem.run_bind, run_sizeOf' hi, Result.andThen_ok, hrun, Sem.run_pure]
  | false =>
    simp only [hg, Bool.false_eq_true, if_false] at hv ⊢
    split at hv
    case h_2 => cases hv
    rename_i cs a hgx
    obtain ⟨c, el, fz, h1, h2, h3, h4, h5⟩ := hr.blk x s _ hm hgx
    obtain ⟨_, z, hz, hrel⟩ := h2 o v hv
    refine ⟨z, ?_, hrel⟩
    rw [run_load, cell_at h1, hz]
theorem eqk_sym_len {ks : List CK} {x : List V} {r : Bool} (h : eqss ks x x = some r) : x.length = ks.length := (eqss_length h).1
theorem checkKey_plain (em : Bool) : ∀ (d : Nat) (t : TypeId) (ks : List CK), plainTy P d t = some ks → ∀ (D : Nat), d ≤ D → ∀ (xs : List Value), xs.length = ks.length →
    ∀ w, (Instr.checkKey em D t (valOf P t xs)).run P w = .ok () w := by
  intro d
  induction d with
  | zero => intro t ks h; simp [plainTy] at h
  | succ d ih =>
    intro t ks h D hD xs hl w
    obtain ⟨D, rfl⟩ : ∃ D', D = D' + 1 := ⟨D - 1, by omega⟩
    unfold plainTy at h
    split at h
    · rename_i k i hu hi; simp [Instr.checkKey, run_underlying' hu]
    · rename_i i hu hi; simp [Instr.checkKey, run_underlying' hu]
    · rename_i i hu hi; simp [Instr.checkKey, run_underlying' hu]
    · rename_i fs i hu hi
      split at h
      case h_2 => cases h
      rename_i ks' hks
      split at h
      case isFalse => cases h
      cases h
      simp only [valOf, hu, isAggD, if_true]
      simp only [Instr.checkKey, Sem.run_bind, run_underlying' hu, Result.andThen_ok]
      rw [← Array.forIn_toList]
      have key : ∀ (l : List Field) (o : Nat) (kl : List CK), plainTy.plainFs P (plainTy P d) l o = some kl → o + kl.length ≤ xs.length →
          (forIn l PUnit.unit fun f _ => (if f.name ≠ "_" then do
              Instr.checkKey em D f.type (← part f.type ⟨xs⟩ f.offset)
              pure (ForInStep.yield PUnit.unit)
            else pure (ForInStep.yield PUnit.unit) : Sem (ForInStep PUnit))).run P w = .ok PUnit.unit w := by
        intro l
        induction l with
        | nil => intro o kl hkl _; simp
        | cons f l ihl =>
          intro o kl hkl hle
          simp only [plainTy.plainFs] at hkl
          split at hkl
          · cases hkl
          · rename_i kf hkf
            split at hkl
            · cases hkl
            · rename_i kr hkr
              split at hkl
              case isFalse => cases hkl
              rename_i hc
              cases hkl
              simp only [Bool.and_eq_true, decide_eq_true_eq, ne_eq] at hc
              obtain ⟨j, e, hj, hue, hsz, hone⟩ := plain_size hkf
              simp only [List.length_append] at hle
              have ne : f.name ≠ "_" := by simpa using hc.1
              simp only [List.forIn_cons, if_pos ne, Sem.run_bind]
              rw [hc.2, part_run hj hue hone _ _ (by omega), Result.andThen_ok, ih f.type kf hkf D (by omega) _ (by simp; omega) w]
              simp only [Result.andThen_ok, Sem.run_pure]
              exact ihl (o + kf.length) kr hkr (by omega)
      rw [key fs.toList 0 ks hks (by omega)]
      rfl
    · rename_i n e i hu hi
      split at h
      case h_2 => cases h
      rename_i kf hkf
      split at h
      case isFalse => cases h
      cases h
      obtain ⟨j, de, hj, hue, hsz, hone⟩ := plain_size hkf
      simp only [valOf, hu, isAggD, if_true]
      simp only [Instr.checkKey, Sem.run_bind, run_underlying' hu, Result.andThen_ok]
      have hl' : xs.length = n * kf.length := by rw [hl]; simp
      have key : ∀ (k s : Nat), (s + k) * kf.length ≤ xs.length →
          (forIn (List.range' s k) PUnit.unit fun i _ => (do
              Instr.checkKey em D e (← part e ⟨xs⟩ (i * (← sizeOf e)))
              pure (ForInStep.yield PUnit.unit) : Sem (ForInStep PUnit))).run P w = .ok PUnit.unit w := by
        intro k
        induction k with
        | zero => intro s _; simp
        | succ k ihk =>
          intro s hle
          have hm : s * kf.length + kf.length ≤ xs.length := by
            have : (s + 1) * kf.length ≤ (s + (k + 1)) * kf.length := Nat.mul_le_mul_right _ (by omega)
            rw [Nat.succ_mul] at this
            omega
          simp only [List.range'_succ, List.forIn_cons, Sem.run_bind, run_sizeOf' hj, Result.andThen_ok]
          rw [hsz, part_run hj hue hone _ _ (by omega), Result.andThen_ok, ih e kf hkf D (by omega) _ (by simp; omega) w]
          simp only [Result.andThen_ok, Sem.run_pure]
          exact ihk (s + 1) (by have : s + 1 + k = s + (k + 1) := by omega
                                rw [this]; exact hle)
      have := key n 0 (by rw [Nat.zero_add, hl']; exact Nat.le_refl _)
      have e0 : (Std.Legacy.Range.mk 0 n 1 (by omega)).size = n := by simp [Std.Legacy.Range.size]
      rw [Std.Legacy.Range.forIn_eq_forIn_range', e0, this]
      rfl
    · cases h
def KeyTy (P : Program) (t : TypeId) (q : EqK) : Prop := eqOf P t = some q ∧ ((∃ c, q = .sc c) ∨ ∃ ks, q = .ag ks)
theorem mapOf_spec {t : TypeId} {q : EqK} {z : V} (h : mapOf P t = some (q, z)) : ∃ k e, P.underlying t = some (.map k e) ∧ KeyTy P k q ∧ zeroOf P e = some z := by
  unfold mapOf at h
  split at h
  · rename_i k e hu
    split at h
    · rename_i z' c hz hq; cases h; exact ⟨k, e, hu, ⟨hq, Or.inl ⟨c, rfl⟩⟩, hz⟩
    · rename_i z' ks hz hq; cases h; exact ⟨k, e, hu, ⟨hq, Or.inr ⟨ks, rfl⟩⟩, hz⟩
    · cases h
  · cases h
theorem checkKey_run {t : TypeId} {q : EqK} (hq : KeyTy P t q) {k : V} {x : Value} (hx : VR m k x) (hk : (eqk q k k).isSome = true) (em : Bool) : (Instr.checkKey em 10000 t x).run P w = .ok () w := by
  obtain ⟨he, hc⟩ := hq
  have scal : ∀ d, P.underlying t = some d → (∀ ms, d ≠ .interface ms) → (∀ n e, d ≠ .array n e) → (∀ fs, d ≠ .struct fs) → ∀ D, (Instr.checkKey em (D + 1) t x).run P w = .ok () w := by
    intro d hu h1 h2 h3 D
    cases d <;> first
      | (exact absurd rfl (h1 _))
      | (exact absurd rfl (h2 _ _))
      | (exact absurd rfl (h3 _))
      | (simp [Instr.checkKey, run_underlying' hu])
  rcases hc with ⟨c, rfl⟩ | ⟨ks, rfl⟩
  · unfold eqOf at he
    split at he
    · rename_i hu; exact scal _ hu (by simp) (by simp) (by simp) 9999
    · rename_i k' hu; exact scal _ hu (by simp) (by simp) (by simp) 9999
    · rename_i hu; exact scal _ hu (by simp) (by simp) (by simp) 9999
    all_goals first | (cases he; done) | skip
    all_goals (split at he
               · cases he
               · cases hp : plainTy P 100 t <;> simp [hp] at he)
  · unfold eqOf at he
    split at he <;> first | (cases he; done) | skip
    all_goals
      rename_i hu
      split at he
      · cases he
      · cases hp : plainTy P 100 t with
        | none => simp [hp] at he
        | some ks' =>
          simp only [hp, Option.map_some, Option.some.injEq, EqK.ag.injEq] at he
          subst he
          cases k <;> simp [eqk] at hk
          rename_i cs
          obtain ⟨xs, rfl, hxs⟩ := hx.agg_inv
          obtain ⟨r, hr⟩ := Option.isSome_iff_exists.1 hk
          have := checkKey_plain (P := P) em 100 t ks' hp 10000 (by omega) xs (by rw [← hxs.length]; exact eqk_sym_len hr) w
          rwa [valOf_agg hu rfl] at this
def FindR (m : GM) (xs : List MapEntry) (i0 : Nat) : Option (Nat × V × Nat) → Option (Nat × Value) → Prop
  | none, none => True
  | some (i, v, n), some (j, x) => i = j ∧ VR m v x ∧ i0 ≤ i ∧ ∃ e, xs[i - i0]? = some e ∧ e.val = x ∧ e.born = n
  | _, _ => False
theorem FindR.later {e : MapEntry} {xs : List MapEntry} {i : Nat} {r : Option (Nat × V × Nat)} {r' : Option (Nat × Value)} (h : FindR m xs (i + 1) r r') : FindR m (e :: xs) i r r' := by
  unfold FindR at h ⊢
  split at h
  · trivial
  · obtain ⟨h1, h2, h3, e', h4, h5, h6⟩ := h
    refine ⟨h1, h2, by omega, e', ?_, h5, h6⟩
    rename_i j v n j' x
    obtain ⟨k, rfl⟩ : ∃ k, j = i + 1 + k := ⟨j - (i + 1), by omega⟩
    have e1 : i + 1 + k - (i + 1) = k := by omega
    have e2 : i + 1 + k - i = k + 1 := by omega
    rw [e1] at h4
    rw [e2, List.getElem?_cons_succ]
    exact h4
  · exact h.elim
theorem find_asking {t : TypeId} {q : EqK} (hq : eqOf P t = some q) {k : V} {x : Value} (hx : VR m k x) : ∀ {es : List (V × V × Nat)} {xs : List MapEntry} (i : Nat) {r : Option (Nat × V × Nat)},
    ERs m es xs → find q k es i = some r → ∃ r', (Instr.findAsking t x xs i).run P w = .ok r' w ∧ FindR m xs i r r'
  | _, _, i, r, .nil, h => by simp only [find, Option.some.injEq] at h; subst h; exact ⟨none, rfl, trivial⟩
  | _, _, i, r, .cons (k := k') (v := v) (n := n) (e := e) (xs := xs) hk hv hn hs, h => by
    simp only [find] at h
    split at h
    · rename_i he
      cases h
      refine ⟨some (i, e.val), ?_, rfl, hv, Nat.le_refl _, e, by simp, rfl, hn⟩
      simp [Instr.findAsking, equal_run hq he hx hk]
    · rename_i he
      obtain ⟨r', h1, h2⟩ := find_asking hq hx (i + 1) hs h
      refine ⟨r', ?_, h2.later⟩
      simp [Instr.findAsking, equal_run hq he hx hk, h1]
    · cases h
def CkD (d : TypeDesc) : CK → Prop
  | .i => ∃ k, d = .int k
  | .b => d = .bool
  | .s => d = .string
theorem find_now {c : CK} {d : TypeDesc} (hd : CkD d c) {k : V} {x : Value} (hx : VR m k x) :
    ∀ {es : List (V × V × Nat)} {xs : List MapEntry} (i : Nat) {r : Option (Nat × V × Nat)}, ERs m es xs → find (.sc c) k es i = some r → ∃ r', Instr.findNow d x xs i = some r' ∧ FindR m xs i r r'
  | _, _, i, r, .nil, h => by simp only [find, Option.some.injEq] at h; subst h; exact ⟨none, rfl, trivial⟩
  | _, _, i, r, .cons (k := k') (v := v) (n := n) (e := e) (xs := xs) hk hv hn hs, h => by
    have same : ∀ b, eqk (.sc c) k k' = some b → Instr.sameNow d x e.key = some b := by
      intro b hb
      simp only [eqk] at hb
      cases c
      · obtain ⟨kk, rfl⟩ : ∃ k, d = .int k := hd
        cases k <;> simp only [eqs] at hb <;> first | (cases hb; done) | skip
        cases k' <;> simp only at hb <;> first | (cases hb; done) | skip
        split at hb
        · rename_i hik
          obtain rfl := ikEq_eq hik
          rw [hx.int_inv, hk.int_inv]
          simpa [Instr.sameNow] using hb
        · cases hb
      · obtain rfl : d = .bool := hd
        cases k <;> simp only [eqs] at hb <;> first | (cases hb; done) | skip
        cases k' <;> simp only at hb <;> first | (cases hb; done) | skip
        rw [hx.bool_inv, hk.bool_inv]
        simpa [Instr.sameNow] using hb
      · obtain rfl : d = .string := hd
        cases k <;> simp only [eqs] at hb <;> first | (cases hb; done) | skip
        cases k' <;> simp only at hb <;> first | (cases hb; done) | skip
        obtain ⟨b1, h1, e1⟩ := hx.str_inv
        obtain ⟨b2, h2, e2⟩ := hk.str_inv
        rw [h1, h2]
        simp only [Instr.sameNow]
        rw [← hb, ← e1, ← e2, bytesEq_dec, beq_toListBytes, ba_toList, ba_toList]
    simp only [find] at h
    split at h
    · rename_i he
      cases h
      exact ⟨some (i, e.val), by simp [Instr.findNow, same _ he], rfl, hv, Nat.le_refl _, e, by simp, rfl, hn⟩
    · rename_i he
      obtain ⟨r', h1, h2⟩ := find_now hd hx (i + 1) hs h
      exact ⟨r', by simp [Instr.findNow, same _ he, h1], h2.later⟩
    · cases h
theorem findKey_run {t : TypeId} {q : EqK} (hq : KeyTy P t q) {k : V} {x : Value} (hx : VR m k x) {es : List (V × V × Nat)} {xs : List MapEntry} (hes : ERs m es xs) {r : Option (Nat × V × Nat)}
    (h : findK q k es = some r) : (∃ r', (Instr.findKey t x xs).run P w = .ok r' w ∧ FindR m xs 0 r r') ∧ (eqk q k k).isSome = true := by
  unfold findK at h
  split at h
  case isFalse => cases h
  rename_i hsome
  refine ⟨?_, hsome⟩
  obtain ⟨he, hc⟩ := hq
  have asking : ∀ d, P.underlying t = some d → Instr.findNow d x xs 0 = none → ∃ r', (Instr.findKey t x xs).run P w = .ok r' w ∧ FindR m xs 0 r r' := by
    intro d hu hn
    obtain ⟨r', h1, h2⟩ := find_asking (w := w) he hx 0 hes h
    exact ⟨r', by simp [Instr.findKey, run_underlying' hu, hn, h1], h2⟩
  rcases hc with ⟨c, rfl⟩ | ⟨ks, rfl⟩
  · have now : ∀ d, P.underlying t = some d → CkD d c → ∃ r', (Instr.findKey t x xs).run P w = .ok r' w ∧ FindR m xs 0 r r' := by
      intro d hu hd
      obtain ⟨r', h1, h2⟩ := find_now hd hx 0 hes h
      exact ⟨r', by simp [Instr.findKey, run_underlying' hu, h1], h2⟩
    unfold eqOf at he
    split at he
    · rename_i hu; cases he; exact now _ hu rfl
    · rename_i k' hu; cases he; exact now _ hu ⟨k', rfl⟩
    · rename_i hu; cases he; exact now _ hu rfl
    all_goals first | (cases he; done) | skip
    all_goals (split at he
               · cases he
               · cases hp : plainTy P 100 t <;> simp [hp] at he)
  · unfold eqOf at he
    split at he <;> first | (cases he; done) | skip
    all_goals
      rename_i hu
      cases hes with
      | nil =>
        simp only [find, Option.some.injEq] at h
        subst h
        exact ⟨none, by simp [Instr.findKey, run_underlying' hu, Instr.findNow], trivial⟩
      | cons hk hv hn hs => exact asking _ hu (by simp [Instr.findNow, Instr.sameNow])
theorem entries_run (hr : HR CR m g w) {a : V} {x : Value} (hx : VR m a x) {es : List (V × V × Nat)} (h : entries g a = some es) :
    (x = .map none ∧ es = []) ∨ ∃ b s xs clk, a = .map b ∧ m b = some s ∧ x = .map (some s.cb) ∧ w.heap[s.cb]? = some (.map ⟨xs⟩ clk) ∧ ERs m es xs ∧ g b = some (.map es clk) := by
  unfold entries at h
  split at h
  · cases h; cases hx; exact Or.inl ⟨rfl, rfl⟩
  · rename_i b
    split at h
    · rename_i es' clk hg
      cases h
      cases hx with
      | map hm =>
        obtain ⟨_, xs, h1, h2⟩ := hr.blk b _ _ hm hg
        exact Or.inr ⟨b, _, xs, clk, rfl, hm, rfl, h1, h2, hg⟩
    · cases h
  · cases h
theorem run_getObj {r : Nat} {o : Obj} (h : w.heap[r]? = some o) (hn : ∀ c e f, o ≠ .cells c e f) : (getObj r).run P w = .ok o w := by
  cases o <;> first | (exact absurd rfl (hn _ _ _)) | simp [getObj, Sem.run, h]
inductive ReadOf (P : Program) : Op → IOp → Prop
  | ld {t : TypeId} {a : Operand} {a' : Opd} {b : Bool} {n : Nat} (h1 : aggOf P t = some (b, n)) (h2 : opd a = some a') : ReadOf P (.load t a) (.ld b n a')
  | lkp {t : TypeId} {a k : Operand} {a' k' : Opd} {q : EqK} {z : V} {ok : Bool} (h0 : mapOf P t = some (q, z)) (h1 : opd a = some a') (h2 : opd k = some k') : ReadOf P (.lookup t a k ok) (.lkp q z ok a' k')
  | lenm {c : Call} {x : Operand} {x' : Opd} {k e : TypeId} (h0 : c.callee = .builtin .len) (h1 : c.args.toList = [x]) (h2 : opd x = some x') (h3 : c.argTypes[0]?.bind P.underlying = some (.map k e)) : ReadOf P (.call c) (.lenm x')
  | slca {t : TypeId} {x : Operand} {lo hi mx : Option Operand} {x' : Opd} {lo' hi' mx' : Option Opd} {n e : Nat} {j : TypeInfo} (h0 : P.underlying t = some (.array n e)) (h00 : P.info? e = some j) (h1 : opd x = some x')
      (h2 : oopd lo = some lo') (h3 : oopd hi = some hi') (h4 : oopd mx = some mx') : ReadOf P (.slice t x lo hi mx) (.slca n j.size x' lo' hi' mx')
theorem opds_one {xs : List Operand} {y : Opd} (h : opds xs = some [y]) : ∃ x, xs = [x] ∧ opd x = some y := by
  match xs, h with
  | [], h => simp [opds] at h
  | [x], h =>
    simp only [opds] at h
    split at h
    · rename_i a b ha hb; cases h; exact ⟨x, rfl, ha⟩
    · cases h
  | x :: z :: r, h =>
    simp only [opds] at h
    split at h
    · rename_i a b ha hb
      cases h
      split at hb
      · cases hb
      · cases hb
    · cases h
theorem readOf {op : Op} {io : IOp} (hc : compOp P op = some io) (hk : kindOf io = .read) : ReadOf P op io := by
  cases op <;> simp only [compOp] at hc <;> first | (cases hc; done) | (obtain ⟨_, _, rfl⟩ := opd_map hc; cases hk; done) | skip
  case load t a =>
    split at hc
    · rename_i h1 h2; cases hc; exact .ld h1 h2
    · cases hc
  case lookup t a k ok =>
    split at hc
    · rename_i h0 h1 h2; cases hc; exact .lkp h0 h1 h2
    · cases hc
  case call c =>
    unfold compCall at hc
    split at hc
    · cases hc
    rename_i args hargs
    split at hc
    · obtain ⟨_, _, rfl⟩ := opd_map hc; cases hk
    · rename_i b hb
      unfold compCallB at hc
      split at hc
      · split at hc
        · cases hc; cases hk
        · cases hc; cases hk
        · cases hc; cases hk
        · rename_i hu
          cases hc
          obtain ⟨x, h1, h2⟩ := opds_one hargs
          exact .lenm hb h1 h2 hu
        · cases hc
      · cases hc; cases hk
      · cases hc; cases hk
      · repeat' (split at hc)
        all_goals first | (cases hc; done) | (cases hc; cases hk; done)
      · repeat' (split at hc)
        all_goals first | (cases hc; done) | (cases hc; cases hk; done)
      · repeat' (split at hc)
        all_goals first | (cases hc; done) | (cases hc; cases hk; done)
      · cases hc
    · cases hc
  case slice t x lo hi mx =>
    split at hc
    · rename_i h1 h2 h3 h4
      unfold compSlice at hc
      split at hc
      · split at hc <;> cases hc; cases hk
      · split at hc <;> cases hc; cases hk
      · rename_i hu
        split at hc
        · rename_i hj; cases hc; exact .slca hu hj h1 h2 h3 h4
        · cases hc
      · cases hc
    · cases hc
  case alloc t =>
    cases hz : zeroOf P t <;> simp only [hz, Option.map_none, Option.map_some] at hc <;> cases hc; cases hk
  case binOp op t x y yt =>
    split at hc
    · unfold compBin at hc
      split at hc
      · split at hc
        · cases hc; cases hk
        · cases hc; cases hk
        · cases hq : eqOf P t <;> simp only [hq, Option.map_none, Option.map_some] at hc <;> cases hc; cases hk
      · cases hc; cases hk
    · cases hc
  case build t ps =>
    unfold compBuild at hc
    split at hc
    · split at hc
      · rename_i fs _ _ _
        cases hq : bparts P fs ps.toList <;> simp only [hq, Option.map_none, Option.map_some] at hc <;> cases hc; cases hk
      · cases hc
    · split at hc
      · rename_i j _
        cases hq : aparts j.size ps.toList <;> simp only [hq, Option.map_none, Option.map_some] at hc <;> cases hc; cases hk
      · cases hc
    · cases hc
  case makeInterface t x =>
    split at hc <;> first | (cases hc; done) | (obtain ⟨_, _, rfl⟩ := opd_map hc; cases hk; done)
  case makeFunc fn a c =>
    cases fn <;> simp only at hc <;> first | (cases hc; done) | skip
    split at hc <;> cases hc; cases hk
  case makeMap t r =>
    cases r <;> simp only at hc <;> cases hc; cases hk
  case next x b =>
    cases b <;> simp only at hc <;> first | (cases hc; done) | skip
    obtain ⟨x', hx, rfl⟩ := opd_map hc
    cases hk
  all_goals
    (try simp only [compBuildS, compIndex] at hc)
    repeat' (split at hc)
    all_goals first | (cases hc; done) | (cases hc; cases hk; done)
theorem ERs.length : ∀ {es : List (V × V × Nat)} {xs : List MapEntry}, ERs m es xs → es.length = xs.length
  | _, _, .nil => rfl
  | _, _, .cons _ _ _ hs => by simp [ERs.length hs]
theorem bounds_none {n : Nat} {lo hi : Option Opd} {l hh mm : Nat} (h : bounds ρ n lo hi none = some (l, hh, mm)) : mm = n := by
  have e : lo? ρ n n none = some n := rfl
  unfold bounds at h
  simp only [e] at h
  split at h
  · cases h
  · split at h
    · cases h
    · cases h; rfl
theorem read_sound (hr : HR CR m g w) {o : Oper} {io : IOp} (hc : compOp P o.op = some io) (hk : kindOf io = .read) (ho : OR m ρ ρc) {v : V} (hv : rdO io ρ g = some v) : PureOk P m ρc w o v := by
  unfold PureOk
  obtain ⟨dst, op, ty, pos, after, guard⟩ := o
  simp only at hc
  unfold execOp
  cases readOf hc hk with
  | ld h1 h2 =>
    have va := ho _ _ h2
    simp only [rdO] at hv
    split at hv
    · rename_i x o e; rw [e] at va
      obtain ⟨s, hs, h3⟩ := va.ptr_inv
      have := rdAgg_run hr h1 hs hv
      refine lift_v ?_
      simpa [Instr.loadAt, h3, Instr.sureAddr] using this
    · cases hv
  | lkp h0 h1 h2 =>
    rename_i t a k a' k' q z ok
    obtain ⟨kt, et, hu, hq, hz⟩ := mapOf_spec h0
    obtain ⟨i, zv, hi, hzv, hcv⟩ := zeroOf_spec hz
    have va := ho _ _ h1
    have vk := ho _ _ h2
    simp only [rdO, lkpF] at hv
    split at hv
    · cases hv
    rename_i es hes
    split at hv
    · cases hv
    · rename_i j v' n hf
      cases hv
      rcases entries_run hr va hes with ⟨hx, rfl⟩ | ⟨b, s, xs, clk, _, hm, hx, hw, hers, _⟩
      · unfold findK at hf
        split at hf
        · simp [find] at hf
        · cases hf
      · obtain ⟨⟨r', h3, h4⟩, hs⟩ := findKey_run (w := w) hq vk hers hf
        cases r' with
        | none => exact h4.elim
        | some p =>
          obtain ⟨j', x⟩ := p
          obtain ⟨_, hv', _⟩ := h4
          refine ⟨if ok then .tuple #[x, .bool true] else x, ?_, ?_⟩
          · simp [Instr.lookup, run_underlying' hu, hx, run_getObj hw (by simp), checkKey_run hq vk hs, h3]
          · cases ok
            · exact hv'
            · exact .tup (.cons hv' (.cons (.bool true) .nil))
    · rename_i hf
      cases hv
      have done : VR m (if ok then .tup [z, .bool false] else z) (if ok then .tuple #[zv, .bool false] else zv) := by
        cases ok
        · exact cv_VR hcv
        · exact .tup (.cons (cv_VR hcv) (.cons (.bool false) .nil))
      rcases entries_run hr va hes with ⟨hx, rfl⟩ | ⟨b, s, xs, clk, _, hm, hx, hw, hers, _⟩
      · obtain ⟨⟨r', h3, h4⟩, hs⟩ := findKey_run (w := w) hq vk (xs := []) .nil hf
        cases r' with
        | some p => exact h4.elim
        | none =>
          refine ⟨if ok then .tuple #[zv, .bool false] else zv, ?_, done⟩
          simp [Instr.lookup, run_underlying' hu, hx, checkKey_run hq vk hs, h3, run_zeroValue hi hzv]
      · obtain ⟨⟨r', h3, h4⟩, hs⟩ := findKey_run (w := w) hq vk hers hf
        cases r' with
        | some p => exact h4.elim
        | none =>
          refine ⟨if ok then .tuple #[zv, .bool false] else zv, ?_, done⟩
          simp [Instr.lookup, run_underlying' hu, hx, run_getObj hw (by simp), checkKey_run hq vk hs, h3, run_zeroValue hi hzv]
  | lenm h0 h1 h2 h3 =>
    rename_i c x x' k e
    obtain ⟨callee, cargs, ats⟩ := c
    simp only at h0 h1 h3
    subst h0
    have va := ho _ _ h2
    obtain ⟨t0, ht0, hu0⟩ := at0 h3
    have ec : cargs = #[x] := by apply Array.ext'; simpa using h1
    subst ec
    simp only [rdO] at hv
    cases hes : entries g (ρ x') with
    | none => simp [hes] at hv
    | some es =>
      simp only [hes, Option.map_some, Option.some.injEq] at hv
      subst hv
      rcases entries_run hr va hes with ⟨hx, rfl⟩ | ⟨b, s, xs, clk, _, hm, hx, hw, hers, _⟩
      · exact ⟨.int .i64 0, by simp [resolve, invoke, builtin, Builtin.len_, ht0, run_underlying' hu0, hx, goInt], .int _ _⟩
      · have hl : es.length = xs.length := hers.length
        refine ⟨.int .i64 xs.length, by simp [resolve, invoke, builtin, Builtin.len_, ht0, run_underlying' hu0, hx, run_getObj hw (by simp), goInt], ?_⟩
        rw [hl]
        exact .int _ _
  | slca h0 h00 h1 h2 h3 h4 =>
    rename_i t x lo hi mx x' lo' hi' mx' n e j
    have va := ho _ _ h1
    simp only [rdO, slcaF] at hv
    split at hv
    case h_2 => cases hv
    rename_i b o e1
    split at hv
    case h_2 => cases hv
    rename_i cs a hg
    split at hv
    case isFalse => cases hv
    rename_i hlen
    split at hv
    · cases hv
    rename_i l hh mm hb
    cases hv
    rw [e1] at va
    obtain ⟨s, hs, hx⟩ := va.ptr_inv
    obtain ⟨c, el, fz, k1, k2, k3, k4, k5⟩ := hr.blk b s _ hs hg
    obtain ⟨hrun, b1, b2, b3⟩ := bounds_run (w := w) (P := P) h2 h3 h4 ho (Nat.le_refl n) hb false
    have hmm : (if mx'.isSome then mm else n) = mm := by
      split
      · rfl
      · rename_i hn
        cases mx' with
        | some u => simp at hn
        | none => exact (bounds_none hb).symm
    rw [hmm] at hrun
    have hmn : mm ≤ n ∧ hh ≤ mm := by
      by_cases hq : mx'.isSome = true
      · exact b3 hq
      · rw [if_neg hq] at hmm; omega
    have run : (Instr.sliceAt t (ρc x) (lo.map ρc) (hi.map ρc) (mx.map ρc)).run P w =
        .ok (.slice (some (if mm = l then ⟨s.cb, s.co + o, none⟩ else ⟨s.cb, s.co + o + l * j.size, none⟩)) (hh - l) (mm - l)) w := by
      simp only [Instr.sliceAt, Sem.run_bind, run_underlying' h0, Result.andThen_ok, hx, Instr.sureAddr, Sem.run_pure, hrun, run_sizeOf' h00, addr_add]
    refine lift_v ⟨_, run, ?_⟩
    have hmul : mm * j.size ≤ n * j.size := Nat.mul_le_mul_right _ hmn.1
    by_cases hcl : mm = l
    · rw [if_pos hcl, if_pos (by rw [hcl]; simp)]
      exact .slice o (hh - l) (mm - l) _ j.size hs (by simp) (by omega) (by subst hcl; simp; omega)
    · have hbq : ¬ (Nat.beq mm l = true) := fun e => hcl (Nat.eq_of_beq_eq_true e)
      rw [if_neg hcl, if_neg hbq]
      have := VR.slice (m := m) (o + l * j.size) (hh - l) (mm - l) (some (mm - l)) j.size hs (by simp) (by omega) (by
        have : (mm - l) * j.size + l * j.size = mm * j.size := by rw [← Nat.add_mul]; congr 1; omega
        omega)
      simpa [Nat.add_assoc] using this
end
end Go.Ax
end
section
set_option linter.unusedSectionVars false
namespace Go.Ax
variable [Globs]
open Go.RowKit
section
variable {S : Type → Type} [Rep S] {CR : Nat → ICode → Code → Prop}
variable {P : Program} {m : GM} {ρ : Opd → V} {ρc : Operand → Value} {w : World} {g : Nat → Option (Blk S)}
inductive MakeOf (P : Program) : Op → IOp → Prop
  | box {t : TypeId} {x : Operand} {x' : Opd} (h : opd x = some x') : MakeOf P (.box t x) (.box x')
  | alloc {t : TypeId} {z : V} (h : zeroOf P t = some z) : MakeOf P (.alloc t) (.alloc z)
  | bldS {t e : TypeId} {len : Nat} {ps : Array (Nat × Operand)} {j : TypeInfo} {z : V} {l : List (Nat × Nat × Opd)} (h0 : P.underlying t = some (.slice e)) (h1 : P.info? e = some j) (h2 : zeroOf P e = some z)
      (h3 : aparts j.size ps.toList = some l) (h4 : len * j.size ≤ 2 ^ 24) (h5 : z.cells.length = j.size) (h6 : j.size ≠ 0) : MakeOf P (.buildSlice t len ps) (.bldS j.size len z.cells l)
  | mksl {t e : TypeId} {l c : Operand} {l' c' : Opd} {j : TypeInfo} {z : V} (h0 : P.underlying t = some (.slice e)) (h1 : P.info? e = some j) (h2 : zeroOf P e = some z) (h3 : opd l = some l') (h4 : opd c = some c')
      (h5 : z.cells.length = j.size) (h6 : j.size ≠ 0) : MakeOf P (.makeSlice t l c) (.mksl j.size j.bytes z.cells l' c')
  | mkmap {t : TypeId} : MakeOf P (.makeMap t none) .mkmap
  | rng {t : TypeId} {x : Operand} {x' : Opd} (h0 : P.underlying t = some .string) (h : opd x = some x') : MakeOf P (.range t x) (.rng x')
theorem makeOf {op : Op} {io : IOp} (hc : compOp P op = some io) (hk : kindOf io = .make) : MakeOf P op io := by
  cases op <;> simp only [compOp] at hc <;> first | (cases hc; done) | skip
  case box t x => obtain ⟨x', hx, rfl⟩ := opd_map hc; exact .box hx
  case alloc t =>
    cases hz : zeroOf P t <;> simp only [hz, Option.map_none, Option.map_some] at hc <;> cases hc
    exact .alloc hz
  case buildSlice t n ps =>
    unfold compBuildS at hc
    split at hc
    case h_2 => cases hc
    rename_i e hu
    split at hc
    case h_2 => cases hc
    rename_i j z l hj hz hl
    split at hc
    case isFalse => cases hc
    rename_i hcond
    cases hc
    simp only [Bool.and_eq_true, decide_eq_true_eq] at hcond
    simp only [hj, Option.map_some, Option.getD_some] at hl
    exact .bldS hu hj hz hl hcond.1.1 hcond.1.2 hcond.2
  case makeSlice t l c =>
    split at hc
    case h_2 => cases hc
    rename_i e l' c' hu hl hcc
    split at hc
    case h_2 => cases hc
    rename_i j z hj hz
    split at hc
    case isFalse => cases hc
    rename_i hcond
    cases hc
    simp only [Bool.and_eq_true, decide_eq_true_eq] at hcond
    exact .mksl hu hj hz hl hcc hcond.1 hcond.2
  case makeMap t r => cases r <;> simp only at hc <;> cases hc; exact .mkmap
  case range t x =>
    split at hc
    · rename_i hu hx; cases hc; exact .rng hu hx
    · cases hc
  case call c =>
    unfold compCall at hc
    split at hc
    · cases hc
    split at hc
    · obtain ⟨_, _, rfl⟩ := opd_map hc; cases hk
    · unfold compCallB at hc
      repeat' (split at hc)
      all_goals first | (cases hc; done) | (cases hc; cases hk; done)
    · cases hc
  case slice t x lo hi mx =>
    split at hc
    · unfold compSlice at hc
      repeat' (split at hc)
      all_goals first | (cases hc; done) | (cases hc; cases hk; done)
    · cases hc
  case binOp op t x y yt =>
    split at hc
    · unfold compBin at hc
      split at hc
      · split at hc
        · cases hc; cases hk
        · cases hc; cases hk
        · cases hq : eqOf P t <;> simp only [hq, Option.map_none, Option.map_some] at hc <;> cases hc; cases hk
      · cases hc; cases hk
    · cases hc
  case build t ps =>
    unfold compBuild at hc
    split at hc
    · split at hc
      · rename_i fs _ _ _
        cases hq : bparts P fs ps.toList <;> simp only [hq, Option.map_none, Option.map_some] at hc <;> cases hc; cases hk
      · cases hc
    · split at hc
      · rename_i j _
        cases hq : aparts j.size ps.toList <;> simp only [hq, Option.map_none, Option.map_some] at hc <;> cases hc; cases hk
      · cases hc
    · cases hc
  case makeInterface t x =>
    split at hc <;> first | (cases hc; done) | (obtain ⟨_, _, rfl⟩ := opd_map hc; cases hk; done)
  case makeFunc fn a c =>
    cases fn <;> simp only at hc <;> first | (cases hc; done) | skip
    split at hc <;> cases hc; cases hk
  case next x b =>
    cases b <;> simp only at hc <;> first | (cases hc; done) | skip
    obtain ⟨x', hx, rfl⟩ := opd_map hc
    cases hk
  all_goals
    (try simp only [compIndex] at hc)
    (try (obtain ⟨_, _, rfl⟩ := opd_map hc; cases hk; done))
    repeat' (split at hc)
    all_goals first | (cases hc; done) | (cases hc; cases hk; done)
theorem rep_get (z : List V) : ∀ (n i : Nat), (rep n z)[i]? = if i < n * z.length then z[i % z.length]? else none := by
  intro n
  induction n with
  | zero => intro i; simp [rep]
  | succ n ih =>
    intro i
    have e : rep (n + 1) z = z ++ rep n z := by simp [rep, List.replicate_succ]
    rw [e]
    have hm : (n + 1) * z.length = n * z.length + z.length := by rw [Nat.succ_mul]
    by_cases h : i < z.length
    · rw [List.getElem?_append_left h, if_pos (by rw [hm]; omega), Nat.mod_eq_of_lt h]
    · rw [List.getElem?_append_right (by omega), ih]
      have e2 : i % z.length = (i - z.length) % z.length := by
        rw [← Nat.mod_eq_sub_mod (by omega)]
      rw [e2]
      by_cases h2 : i < (n + 1) * z.length
      · rw [if_pos h2, if_pos (by rw [hm] at h2; omega)]
      · rw [if_neg h2, if_neg (by rw [hm] at h2; omega)]
theorem length_rep (z : List V) (n : Nat) : (rep n z).length = n * z.length := by
  induction n with
  | zero => simp [rep]
  | succ n ih =>
    have e : rep (n + 1) z = z ++ rep n z := by simp [rep, List.replicate_succ]
    rw [e, List.length_append, ih, Nat.succ_mul, Nat.add_comm]
theorem splice_length (cs : List V) (o : Nat) (vs : List V) (h : o + vs.length ≤ cs.length) : (splice cs o vs).length = cs.length := by
  unfold splice; simp; omega
theorem fill_length : ∀ {ps : List (Nat × Nat × V)} {cs cs' : List V}, fill cs ps = some cs' → cs'.length = cs.length
  | [], cs, cs', h => by simp only [fill, Option.some.injEq] at h; rw [h]
  | (off, sz, v) :: r, cs, cs', h => by
    simp only [fill] at h
    split at h
    · rename_i hc
      simp only [Bool.and_eq_true] at hc
      have h1 := Nat.eq_of_beq_eq_true hc.1
      have h2 := Nat.le_of_ble_eq_true hc.2
      rw [fill_length h, splice_length _ _ _ (by omega)]
    · cases h
theorem range0 (f : Nat → Value) : (Array.range 0).map f = #[] := by simp [Array.range]
theorem rep_rel {z : List V} {zc : Array Value} (h : VRs m z zc.toList) (hz : 0 < z.length) (n : Nat) : VRs m (rep n z) ((Array.range (n * zc.size)).map (zc[· % zc.size]!)).toList := by
  have hl := h.length
  simp only [Array.length_toList] at hl
  refine VRs.of_get (by rw [length_rep, hl]; simp) fun i a b ha hb => ?_
  rw [rep_get z] at ha
  split at ha
  case isFalse => cases ha
  rename_i hi
  simp only [Array.toList_map, Array.toList_range, List.getElem?_map] at hb
  rw [List.getElem?_range (by rw [← hl]; exact hi)] at hb
  simp only [Option.map_some, Option.some.injEq] at hb
  obtain ⟨y, hy, hr⟩ := h.get ha
  have hlt : i % zc.size < zc.size := Nat.mod_lt _ (by omega)
  rw [hl] at hy
  rw [getElem!_pos zc (i % zc.size) hlt] at hb
  rw [Array.getElem?_toList, Array.getElem?_eq_getElem hlt] at hy
  cases hy
  rw [← hb]
  exact hr
theorem all_scalar {cs : List V} (h : cs.all V.scalar = true) (i : Nat) (v : V) (hv : cs[i]? = some v) : v.scalar = true := List.all_eq_true.1 h v (List.mem_of_getElem? hv)
theorem BR.newRow' {m' : GM} {cs : List V} {c : Array Value} {el : TypeId} {a : BA} (ha : a.sl ≤ cs.length) {rest : List Value} (hs : cs.all V.scalar = true) {xs : List Value} (hx : c.toList = xs ++ rest) (h : VRs m cs xs) (hm : ∀ b s, m b = some s → m' b = some s) :
    BR (S := S) CR m' ⟨w.heap.size, 0, c.size, true⟩ (w.alloc (.cells c el)) (.arr cs a) := by
  have hl := h.length
  have hc : c.size = xs.length + rest.length := by rw [← Array.length_toList, hx, List.length_append]
  refine ⟨c, el, (0, 0), heap_alloc_at w _, fun i v hv => ⟨all_scalar hs i v hv, ?_⟩, by simp, ⟨by show cs.length ≤ c.size; omega, ha⟩, fun _ => ⟨rfl, rfl⟩⟩
  obtain ⟨x, hx2, hr⟩ := h.get hv
  refine ⟨x, ?_, hr.mono hm⟩
  rw [← Array.getElem?_toList, hx]
  have hi : i < xs.length := (List.getElem?_eq_some_iff.1 hx2).1
  simpa [List.getElem?_append_left hi] using hx2
theorem BR.newRow {m' : GM} {cs : List V} {c : Array Value} {el : TypeId} (hs : cs.all V.scalar = true) (h : VRs m cs c.toList) (hm : ∀ b s, m b = some s → m' b = some s) :
    BR (S := S) CR m' ⟨w.heap.size, 0, c.size, true⟩ (w.alloc (.cells c el)) (.arr cs {}) :=
  BR.newRow' (rest := []) (Nat.zero_le _) hs (by simp) h hm
theorem make_new {o : Oper} {io : IOp} (hc : compOp P o.op = some io) (hk : kindOf io = .make) (ho : OR m ρ ρc) {f : Nat → V} {b : Blk S} (hv : mkO io ρ = some (f, b)) (N : Nat) (hN : m N = none) :
    ∃ room ob vc, (execOp ρc o).run P w = .ok (.value vc) (w.alloc ob) ∧ VR (m.put N ⟨w.heap.size, 0, room, true⟩) (f N) vc ∧ BR CR (m.put N ⟨w.heap.size, 0, room, true⟩) ⟨w.heap.size, 0, room, true⟩ (w.alloc ob) b := by
  obtain ⟨dst, op, ty, pos, after, guard⟩ := o
  simp only at hc
  unfold execOp
  have put_at : ∀ s, (m.put N s) N = some s := fun s => by simp [GM.put]
  cases makeOf hc hk with
  | box h =>
    rename_i t x x'
    have vx := ho _ _ h
    simp only [mkO] at hv
    split at hv
    case isFalse => cases hv
    rename_i hs
    cases hv
    refine ⟨(ρc x).cells.size, (.cells (ρc x).cells t), .pointer (some ⟨w.heap.size, 0, none⟩), ?_, ?_, (BR.newRow hs vx.cells (GM.put_mono hN))⟩
    · simp [Instr.box, newVar, newRow]
    · exact .ptr 0 (put_at _)
  | alloc h =>
    rename_i t z
    obtain ⟨i, zv, hi, hzv, hcv⟩ := zeroOf_spec h
    simp only [mkO] at hv
    split at hv
    case isFalse => cases hv
    rename_i hs
    cases hv
    refine ⟨zv.cells.size, (.cells zv.cells t), .pointer (some ⟨w.heap.size, 0, none⟩), ?_, ?_, (BR.newRow hs (cv_VR hcv).cells (GM.put_mono hN))⟩
    · simp [Instr.alloc, newVar, newRow, run_zeroValue hi hzv]
    · exact .ptr 0 (put_at _)
  | bldS h0 h1 h2 h3 h4 h5 h6 =>
    rename_i t e len ps j z l
    obtain ⟨i, zv, hi, hzv, hcv⟩ := zeroOf_spec h2
    rw [h1] at hi
    cases hi
    simp only [mkO] at hv
    split at hv
    case h_2 => cases hv
    rename_i cs hfill
    split at hv
    case isFalse => cases hv
    rename_i hs
    cases hv
    have vz := (cv_VR (m := m) hcv).cells
    have hl := vz.length
    simp only [Array.length_toList] at hl
    have hz : zv.cells.size = j.size := by omega
    have vrep := rep_rel vz (by omega) len
    obtain ⟨r, hr', hrel⟩ := fill_rel (aparts_rel ho j.size h3) (cells := (Array.range (len * j.size)).map (zv.cells[· % zv.cells.size]!)) (by rw [← hz]; exact vrep) hfill
    refine ⟨r.size, (.cells r e), .slice (some ⟨w.heap.size, 0, none⟩) len len, ?_, ?_, (BR.newRow hs hrel (GM.put_mono hN))⟩
    · have e1 : (ps.map fun p => (p.1, ρc p.2)).toList = ps.toList.map fun p => (p.1, ρc p.2) := by simp
      have e2 : ¬ (2 ^ 24 < len * j.size) := by omega
      have e3 : (Instr.buildSlice t len (ps.map fun p => (p.1, ρc p.2))).run P w = .ok (.slice (some ⟨w.heap.size, 0, none⟩) len len) (w.alloc (.cells r e)) := by
        unfold Instr.buildSlice
        simp only [Sem.run_bind, run_underlying' h0, Result.andThen_ok, run_sizeOf' h1]
        rw [if_neg (by omega)]
        by_cases h0' : len * j.size = 0
        · have hr2 := hr'
          rw [h0', range0] at hr2
          simp only [h0', if_true, Sem.run_bind, Sem.run_pure, Result.andThen_ok, range0, e1, hr2]
          simp [newRow]
        · simp only [if_neg h0', Sem.run_bind, Sem.run_pure, Result.andThen_ok, run_zeroValue h1 hzv, e1, hr']
          simp [newRow]
      simp only [Sem.run_bind]
      have e4 : (fun x : Nat × Operand => match x with | (i, x) => (i, ρc x)) = fun p => (p.1, ρc p.2) := rfl
      rw [e4, e3]
      rfl
    · have hrl := hrel.length
      have := fill_length hfill
      rw [length_rep] at this
      simp only [Array.length_toList] at hrl
      exact .slice 0 len len (some len) j.size (put_at _) (by simp) (Nat.le_refl _) (by show 0 + len * j.size ≤ r.size; rw [← hrl, this, h5]; omega)
  | mksl h0 h1 h2 h3 h4 h5 h6 =>
    rename_i t e l c l' c' j z
    obtain ⟨i, zv, hi, hzv, hcv⟩ := zeroOf_spec h2
    rw [h1] at hi
    cases hi
    have vl := ho _ _ h3
    have vc := ho _ _ h4
    simp only [mkO] at hv
    split at hv
    case h_2 => cases hv
    rename_i k1 a k2 b e1 e2
    split at hv
    case isFalse => cases hv
    rename_i hcond
    obtain ⟨c0, c1, c2, c3, c4⟩ := hcond
    cases hv
    rw [e1] at vl
    rw [e2] at vc
    have vz := (cv_VR (m := m) hcv).cells
    have hl := vz.length
    simp only [Array.length_toList] at hl
    have hz : zv.cells.size = j.size := by omega
    have vrep := rep_rel vz (by omega) b.toNat
    rw [hz] at vrep
    have hsc : (rep b.toNat z.cells).all V.scalar = true := by
      rw [List.all_eq_true]
      intro v hv
      simp only [rep, List.mem_flatten, List.mem_replicate] at hv
      obtain ⟨_, ⟨_, rfl⟩, hv⟩ := hv
      exact List.all_eq_true.1 c4 v hv
    refine ⟨_, (.cells ((Array.range (b.toNat * j.size)).map (zv.cells[· % zv.cells.size]!)) e), .slice (some ⟨w.heap.size, 0, none⟩) a.toNat b.toNat, ?_, ?_, (BR.newRow hsc (by rw [hz]; exact vrep) (GM.put_mono hN))⟩
    · have lim : (limit : Int) = 35184372088832 := by rfl
      have limn : limit = 35184372088832 := rfl
      have w1 : ∀ n : Int, 0 ≤ n → n ≤ 35184372088832 → IntKind.i64.wrap n = n := by
        intro n h0 h1
        have e : n % (2 ^ 64 : Int) = n := Int.emod_eq_of_lt h0 (by omega)
        show (if (true && decide ((n % (2 ^ 64 : Int)) ≥ (2 ^ (64 - 1) : Int))) = true then (n % (2 ^ 64 : Int)) - (2 ^ 64 : Int) else (n % (2 ^ 64 : Int))) = n
        simp only [e]
        rw [if_neg (by simp; omega)]
      have wa := w1 a c0 (by omega)
      have wb := w1 b (by omega) (by omega)
      have big : ¬ ((j.bytes : Int) * b > 2 ^ 48) := by rw [Int.mul_comm]; omega
      have e3 : (Instr.makeSlice t (ρc l) (ρc c)).run P w = .ok (.slice (some ⟨w.heap.size, 0, none⟩) a.toNat b.toNat) (w.alloc (.cells ((Array.range (b.toNat * j.size)).map (zv.cells[· % zv.cells.size]!)) e)) := by
        unfold Instr.makeSlice
        simp only [vl.int_inv, vc.int_inv, asInt, asIntOf, typeInfo, h1, Sem.run_bind, Sem.run_pure, Result.andThen_ok, run_underlying' h0, run_program, wa, wb]
        have n1 : decide (b < 0) = false := by simp; omega
        have n2 : decide (a < 0) = false := by simp; omega
        have n3 : decide (a > b) = false := by simp; omega
        have n4 : decide ((j.bytes : Int) * b > 2 ^ 48) = false := by simpa using big
        simp only [n1, n2, n3, n4, Bool.or_self, Bool.false_eq_true, if_false, Sem.run_bind, run_askRoom, Result.andThen_ok, run_sizeOf' h1]
        by_cases h0' : b.toNat * j.size = 0
        · simp only [h0', if_true, Sem.run_bind, Sem.run_pure, Result.andThen_ok, range0]
          simp [newRow]
        · simp only [if_neg h0', Sem.run_bind, Sem.run_pure, Result.andThen_ok, run_zeroValue h1 hzv]
          simp [newRow]
      simp only [Sem.run_bind, e3]
      rfl
    · refine .slice 0 a.toNat b.toNat (some b.toNat) j.size (put_at _) (by simp) (by omega) ?_
      show 0 + b.toNat * j.size ≤ _
      simp
  | mkmap =>
    rename_i t
    cases hv
    refine ⟨0, (.map #[] 0), .map (some w.heap.size), ?_, .map (s := ⟨w.heap.size, 0, 0, true⟩) (put_at _), ⟨rfl, [], heap_alloc_at w _, .nil⟩⟩
    simp [Instr.makeMap]
  | rng h0 h =>
    rename_i t x x'
    have vx := ho _ _ h
    simp only [mkO] at hv
    split at hv
    case h_2 => cases hv
    rename_i s e1
    cases hv
    rw [e1] at vx
    obtain ⟨bs, h2, h3⟩ := vx.str_inv
    refine ⟨0, (.stringIter bs 0), .pointer (some ⟨w.heap.size, 0, none⟩), ?_, .ptr (s := ⟨w.heap.size, 0, 0, true⟩) 0 (put_at _), ⟨rfl, bs, heap_alloc_at w _, h3, rfl⟩⟩
    simp [Instr.range, run_underlying' h0, h2]
theorem make_sound (hr : HR CR m g w) {o : Oper} {io : IOp} (hc : compOp P o.op = some io) (hk : kindOf io = .make) (ho : OR m ρ ρc) {f : Nat → V} {b : Blk S} (hv : mkO io ρ = some (f, b)) (N : Nat) (hN : m N = none) :
    ∃ s vc w', (execOp ρc o).run P w = .ok (.value vc) w' ∧ VR (m.put N s) (f N) vc ∧ HR CR (m.put N s) (fun c => if c = N then some b else g c) w' ∧ Fr m w (m.put N s) w' := by
  obtain ⟨room, ob, vc, h1, h2, h3⟩ := make_new (CR := CR) (w := w) hc hk ho hv N hN
  have := hr.alloc N room hN b ob h3
  exact ⟨_, vc, _, h1, h2, this.1, this.2⟩
end
end Go.Ax
end
section
set_option linter.unusedSectionVars false
namespace Go.Ax
variable [Globs]
open Go.RowKit
section
variable {S : Type → Type} [Rep S] {CR : Nat → ICode → Code → Prop}
variable {P : Program} {m : GM} {ρ : Opd → V} {ρc : Operand → Value} {w : World} {h h' : Hp S}
theorem Hp.get_kill : ∀ (l : List Nat) (h : Hp S) (c : Nat), (Hp.kill l h).get c = if c ∈ l then some .dead else h.get c
  | [], h, c => by simp [Hp.kill]
  | b :: bs, h, c => by
    rw [Hp.kill, Hp.get_kill bs, Hp.get_put]
    by_cases h1 : c ∈ bs
    · simp [h1]
    · by_cases h2 : c = b
      · simp [h2]
      · simp [h1, h2]
theorem Hp.n_kill : ∀ (l : List Nat) (h : Hp S), (Hp.kill l h).n = h.n
  | [], h => rfl
  | b :: bs, h => by rw [Hp.kill, Hp.n_kill bs]; rfl
theorem splice_get {cs : List V} {o : Nat} {vs : List V} (h : o + vs.length ≤ cs.length) (i : Nat) :
    (splice cs o vs)[i]? = if i < o then cs[i]? else if i < o + vs.length then vs[i - o]? else cs[i]? := by
  unfold splice
  have e1 : (cs.take o).length = o := by simp; omega
  by_cases h1 : i < o
  · rw [if_pos h1, List.append_assoc, List.getElem?_append_left (by omega), List.getElem?_take, if_pos h1]
  · rw [if_neg h1, List.append_assoc, List.getElem?_append_right (by omega), e1]
    by_cases h2 : i < o + vs.length
    · rw [if_pos h2, List.getElem?_append_left (by omega)]
    · rw [if_neg h2, List.getElem?_append_right (by omega), List.getElem?_drop]
      congr 1
      omega
theorem spliceV_get {cs : List Value} {o : Nat} {vs : List Value} (h : o + vs.length ≤ cs.length) (i : Nat) :
    (spliceV cs o vs)[i]? = if i < o then cs[i]? else if i < o + vs.length then vs[i - o]? else cs[i]? := by
  unfold spliceV
  have e1 : (cs.take o).length = o := by simp; omega
  by_cases h1 : i < o
  · rw [if_pos h1, List.append_assoc, List.getElem?_append_left (by omega), List.getElem?_take, if_pos h1]
  · rw [if_neg h1, List.append_assoc, List.getElem?_append_right (by omega), e1]
    by_cases h2 : i < o + vs.length
    · rw [if_pos h2, List.getElem?_append_left (by omega)]
    · rw [if_neg h2, List.getElem?_append_right (by omega), List.getElem?_drop]
      congr 1
      omega
theorem scalars_one {vs : List V} {xs : List Value} (h : VRs m vs xs) (hs : vs.all V.scalar = true) : ∀ x ∈ xs, x.oneCell' = true := by
  intro x hx
  obtain ⟨i, hi, rfl⟩ := List.getElem_of_mem hx
  have hl := h.length
  have hv : vs[i]? = some vs[i] := List.getElem?_eq_getElem (by omega)
  obtain ⟨y, hy, hr⟩ := h.get hv
  rw [List.getElem?_eq_getElem hi] at hy
  cases hy
  have := hr.oneCell (all_scalar hs i _ hv)
  generalize xs[i] = z at *
  cases z <;> first | rfl | exact absurd rfl (this.1 _) | exact absurd rfl (this.2 _)
theorem wr_sound (hr : HR CR m h.get w) {b o : Nat} {vs : List V} (hw : h.wr b o vs = some h') {s : Spot} (hm : m b = some s) {xs : List Value} (hx : VRs m vs xs) :
    ∃ w', (storeCells ⟨s.cb, s.co + o, none⟩ xs).run P w = .ok () w' ∧ HR CR m h'.get w' ∧ Fr m w m w' ∧ h'.n = h.n := by
  unfold Hp.wr at hw
  split at hw
  case h_2 => cases hw
  rename_i cs a hg
  split at hw
  · cases hw
  rename_i hcond
  simp only [Bool.or_eq_true, Bool.not_eq_true', not_or, Bool.not_eq_true, Bool.not_eq_false] at hcond
  obtain ⟨⟨hro, hch⟩, hsc⟩ := hcond
  split at hw
  case isFalse => cases hw
  rename_i hlen
  obtain ⟨c, el, fz, h1, h2, h3, h4, h5⟩ := hr.blk b s _ hm hg
  obtain ⟨hown, rfl⟩ := h5 hro
  have hl := hx.length
  have hone := scalars_one hx hsc
  have hfit : s.co + o + xs.length ≤ c.size := by omega
  have hrun := run_storeCells_at P s.cb (s.co + o) el xs 0 c w h1 (by simpa using hfit) hone
  simp only [Nat.add_zero] at hrun
  have ec : (c.toList.take (s.co + o) ++ xs ++ c.toList.drop (s.co + o + xs.length)).toArray = ⟨spliceV c.toList (s.co + o) xs⟩ := rfl
  rw [ec] at hrun
  have hnew : ∀ (i : Nat) v, (splice cs o vs)[i]? = some v → v.scalar = true ∧ ∃ x, (⟨spliceV c.toList (s.co + o) xs⟩ : Array Value)[s.co + i]? = some x ∧ VR m v x := by
    intro i v hv
    rw [splice_get hlen] at hv
    have eg : (⟨spliceV c.toList (s.co + o) xs⟩ : Array Value)[s.co + i]? = (spliceV c.toList (s.co + o) xs)[s.co + i]? := by simp
    rw [eg, spliceV_get (by simpa using hfit)]
    by_cases c1 : i < o
    · rw [if_pos c1] at hv
      rw [if_pos (by omega)]
      obtain ⟨q1, x, q2, q3⟩ := h2 i v hv
      exact ⟨q1, x, by simpa using q2, q3⟩
    · rw [if_neg c1] at hv
      rw [if_neg (by omega)]
      by_cases c2 : i < o + vs.length
      · rw [if_pos c2] at hv
        rw [if_pos (by omega)]
        obtain ⟨x, hx1, hx2⟩ := hx.get hv
        refine ⟨all_scalar hsc _ _ hv, x, ?_, hx2⟩
        rw [← hx1]; congr 1; omega
      · rw [if_neg c2] at hv
        rw [if_neg (by omega)]
        obtain ⟨q1, x, q2, q3⟩ := h2 i v hv
        exact ⟨q1, x, by simpa using q2, q3⟩
  have hsame : ∀ j, j < s.co + o ∨ s.co + o + vs.length ≤ j → (⟨spliceV c.toList (s.co + o) xs⟩ : Array Value)[j]? = c[j]? := by
    intro j hj
    have eg : (⟨spliceV c.toList (s.co + o) xs⟩ : Array Value)[j]? = (spliceV c.toList (s.co + o) xs)[j]? := by simp
    rw [eg, spliceV_get (by simpa using hfit)]
    rcases hj with hj | hj
    · rw [if_pos hj]; simp
    · rw [if_neg (by omega), if_neg (by omega)]; simp
  have hcs : (⟨spliceV c.toList (s.co + o) xs⟩ : Array Value).size = c.size := by
    simp only [spliceV, List.size_toArray, List.length_append, List.length_take, List.length_drop, Array.length_toList]
    omega
  split at hw
  · rename_i hk
    cases hw
    have := hr.setRow (g' := ((Hp.kill a.anc h).put b (.arr (splice cs o vs) {})).get) hm hg hro hch (Or.inr rfl) (splice_length cs o vs hlen) c el h1 _ hcs hnew o vs.length hsame
      (by rw [Hp.get_put, if_pos rfl]) (fun y hy => by
        rw [Hp.get_put, if_neg hy, Hp.get_kill]
        by_cases hin : y ∈ a.anc
        · rw [if_pos hin]; exact Or.inr rfl
        · rw [if_neg hin]; exact Or.inl rfl)
      (fun y cy ay hlt hin e => by
        rw [Hp.get_put, if_neg (by omega), Hp.get_kill, if_pos hin] at e
        cases e)
    exact ⟨_, hrun, this.1, this.2, by show (Hp.kill a.anc h).n = h.n; exact Hp.n_kill _ _⟩
  · rename_i hk
    cases hw
    have := hr.setRow (g' := (h.put b (.arr (splice cs o vs) a)).get) hm hg hro hch (Or.inl rfl) (splice_length cs o vs hlen) c el h1 _ hcs hnew o vs.length hsame
      (by rw [Hp.get_put, if_pos rfl]) (fun y hy => by rw [Hp.get_put, if_neg hy]; exact Or.inl rfl)
      (fun y cy ay hlt hin e => ⟨by omega, rfl⟩)
    exact ⟨_, hrun, this.1, this.2, rfl⟩
theorem eqs_eq {c : CK} {a b : V} (h : eqs c a b = some true) : a = b := by
  unfold eqs at h
  split at h
  · split at h
    · rename_i hk
      obtain rfl := ikEq_eq hk
      simp at h; subst h; rfl
    · cases h
  · simp only [Option.some.injEq] at h
    rw [bytesEq_iff] at h; subst h; rfl
  · simp at h; subst h; rfl
  · cases h
theorem eqss_eq : ∀ {ks : List CK} {a b : List V}, eqss ks a b = some true → a = b
  | [], [], [], _ => rfl
  | c :: ks, a :: x, b :: y, h => by
    simp only [eqss] at h
    split at h
    · rename_i p q hp hq
      simp only [Option.some.injEq, Bool.and_eq_true] at h
      obtain ⟨rfl, rfl⟩ := h
      rw [eqs_eq hp, eqss_eq hq]
    · cases h
  | [], _ :: _, _, h => by simp [eqss] at h
  | [], [], _ :: _, h => by simp [eqss] at h
  | _ :: _, [], _, h => by simp [eqss] at h
  | _ :: _, _ :: _, [], h => by simp [eqss] at h
theorem eqk_key_eq {q : EqK} (hq : (∃ c, q = .sc c) ∨ ∃ ks, q = .ag ks) {a b : V} (h : eqk q a b = some true) : a = b := by
  rcases hq with ⟨c, rfl⟩ | ⟨ks, rfl⟩
  · exact eqs_eq h
  · cases a <;> simp only [eqk] at h <;> first | (cases h; done) | skip
    cases b <;> simp only at h <;> first | (cases h; done) | skip
    rw [eqss_eq h]
theorem eqs_bits {c : CK} {a b : V} (h : eqs c a b = some true) {x y : Value} (hx : VR m a x) (hy : VR m b y) (n : Nat) : Instr.sameBits n x y = true := by
  have := eqs_eq h
  subst this
  cases c <;> cases a <;> simp only [eqs] at h <;> first | (cases h; done) | skip
  · rw [hx.int_inv, hy.int_inv]; cases n <;> simp [Instr.sameBits]
  · rw [hx.bool_inv, hy.bool_inv]; cases n <;> simp [Instr.sameBits]
  · obtain ⟨b1, rfl, e1⟩ := hx.str_inv
    obtain ⟨b2, rfl, e2⟩ := hy.str_inv
    have : b1 = b2 := by
      have h1 : b1.data = b2.data := Array.ext' (e1.trans e2.symm)
      cases b1; cases b2; simp at h1; subst h1; rfl
    subst this
    cases n <;> simp [Instr.sameBits, beq_toListBytes]
theorem eqss_bits (n : Nat) : ∀ {ks : List CK} {a b : List V} {x y : List Value}, eqss ks a b = some true → VRs m a x → VRs m b y → (x.zip y).all (fun (p : Value × Value) => Instr.sameBits n p.1 p.2) = true
  | [], [], [], _, _, _, .nil, .nil => rfl
  | c :: ks, a :: as, b :: bs, _, _, h, .cons hx hxs, .cons hy hys => by
    simp only [eqss] at h
    split at h
    · rename_i p q hp hq
      simp only [Option.some.injEq, Bool.and_eq_true] at h
      obtain ⟨rfl, rfl⟩ := h
      simp only [List.zip_cons_cons, List.all_cons, eqs_bits hp hx hy n, eqss_bits n hq hxs hys, Bool.and_self]
    · cases h
  | [], _ :: _, _, _, _, h, _, _ => by simp [eqss] at h
  | [], [], _ :: _, _, _, h, _, _ => by simp [eqss] at h
  | _ :: _, [], _, _, _, h, _, _ => by simp [eqss] at h
  | _ :: _, _ :: _, [], _, _, h, _, _ => by simp [eqss] at h
theorem eqk_bits {q : EqK} (hq : (∃ c, q = .sc c) ∨ ∃ ks, q = .ag ks) {a b : V} (h : eqk q a b = some true) {x y : Value} (hx : VR m a x) (hy : VR m b y) : Instr.sameBits 10000 x y = true := by
  rcases hq with ⟨c, rfl⟩ | ⟨ks, rfl⟩
  · exact eqs_bits h hx hy _
  · cases a <;> simp only [eqk] at h <;> first | (cases h; done) | skip
    cases b <;> simp only at h <;> first | (cases h; done) | skip
    obtain ⟨xs, rfl, hxs⟩ := hx.agg_inv
    obtain ⟨ys, rfl, hys⟩ := hy.agg_inv
    have hl : xs.length = ys.length := by rw [← hxs.length, ← hys.length, (eqss_length h).1, (eqss_length h).2]
    have := eqss_bits 9999 h hxs hys
    show ((⟨xs⟩ : Array Value).size == (⟨ys⟩ : Array Value).size && (xs.zip ys).all fun (x, y) => Instr.sameBits 9999 x y) = true
    simp [hl]
    simpa using this
theorem find_spec {q : EqK} {k : V} : ∀ {es : List (V × V × Nat)} {i0 : Nat} {i : Nat} {v : V} {n : Nat}, find q k es i0 = some (some (i, v, n)) →
    ∃ k', es[i - i0]? = some (k', v, n) ∧ eqk q k k' = some true ∧ i0 ≤ i
  | (k', v', n') :: es, i0, i, v, n, h => by
    simp only [find] at h
    split at h
    · rename_i he
      cases h
      exact ⟨k', by simp, he, Nat.le_refl _⟩
    · obtain ⟨k2, h1, h2, h3⟩ := find_spec h
      refine ⟨k2, ?_, h2, by omega⟩
      obtain ⟨j, rfl⟩ : ∃ j, i = i0 + 1 + j := ⟨i - (i0 + 1), by omega⟩
      have e1 : i0 + 1 + j - (i0 + 1) = j := by omega
      have e2 : i0 + 1 + j - i0 = j + 1 := by omega
      rw [e1] at h1
      rw [e2, List.getElem?_cons_succ]
      exact h1
    · cases h
theorem ERs.get : ∀ {es : List (V × V × Nat)} {xs : List MapEntry}, ERs m es xs → ∀ {i : Nat} {k v : V} {n : Nat}, es[i]? = some (k, v, n) → ∃ e, xs[i]? = some e ∧ VR m k e.key ∧ VR m v e.val ∧ e.born = n
  | _, _, .nil, i, k, v, n, h => by simp at h
  | _, _, .cons (e := e) hk hv hn hs, 0, k, v, n, h => by simp at h; obtain ⟨rfl, rfl, rfl⟩ := h; exact ⟨e, rfl, hk, hv, hn⟩
  | _, _, .cons hk hv hn hs, i + 1, k, v, n, h => by simp at h; simpa using ERs.get hs h
theorem ERs.append : ∀ {es fs : List (V × V × Nat)} {xs ys : List MapEntry}, ERs m es xs → ERs m fs ys → ERs m (es ++ fs) (xs ++ ys)
  | _, _, _, _, .nil, k => k
  | _, _, _, _, .cons hk hv hn hs, k => .cons hk hv hn (ERs.append hs k)
theorem ERs.modify (f : MapEntry → MapEntry) {v : V} : ∀ {es : List (V × V × Nat)} {xs : List MapEntry}, ERs m es xs → ∀ (i : Nat) {k v0 : V} {n : Nat}, es[i]? = some (k, v0, n) →
    (∀ e, VR m k e.key → e.born = n → VR m k (f e).key ∧ VR m v (f e).val ∧ (f e).born = n) → ERs m (setVal v es i) (xs.modify i f)
  | _, _, .nil, i, k, v0, n, h, _ => by simp at h
  | _, _, .cons (e := e) hk hv hn hs, 0, k, v0, n, h, hf => by
    simp at h
    obtain ⟨rfl, rfl, rfl⟩ := h
    obtain ⟨f1, f2, f3⟩ := hf e hk hn
    simp only [setVal, List.modify_zero_cons]
    exact .cons f1 f2 f3 hs
  | _, _, .cons hk hv hn hs, i + 1, k, v0, n, h, hf => by
    simp only [setVal, List.modify_succ_cons]
    exact .cons hk hv hn (ERs.modify f hs i (by simpa using h) hf)
theorem run_setObj {r : Nat} {o o' : Obj} (h : w.heap[r]? = some o) (hn : ∀ c e f, o ≠ .cells c e f) : (setObj r o').run P w = .ok () (World.putObj' w r o') := by
  cases o <;> first | (exact absurd rfl (hn _ _ _)) | simp [setObj, Sem.run, h, World.putObj']
theorem run_keyThatStays {a b : Value} (h : Instr.sameBits 10000 a b = true) : (Instr.keyThatStays a b).run P w = .ok b w := by
  simp [Instr.keyThatStays, h]
end
end Go.Ax
end
section
set_option linter.unusedSectionVars false
namespace Go.Ax
variable [Globs]
open Go.RowKit
section
variable {S : Type → Type} [Rep S] {CR : Nat → ICode → Code → Prop}
variable {P : Program} {m : GM} {ρ : Opd → V} {ρc : Operand → Value} {w : World} {h h' : Hp S}
def HvOk (CR : Nat → ICode → Code → Prop) (P : Program) (m : GM) (ρc : Operand → Value) (w : World) (o : Oper) (v : V) (h' : Hp S) : Prop :=
  ∃ nx vc w' m', (execOp ρc o).run P w = .ok nx w' ∧ (nx = .value vc ∨ (nx = .skip ∧ vc = undef)) ∧ VR m' v vc ∧ HR CR m' h'.get w' ∧ Fr m w m' w' ∧ Fresh m' h'.n
inductive HeavyOf (P : Program) : Op → IOp → Prop
  | st {t : TypeId} {a x : Operand} {a' x' : Opd} {b : Bool} {n : Nat} (h0 : aggOf P t = some (b, n)) (h1 : opd a = some a') (h2 : opd x = some x') (h3 : n ≠ 0) : HeavyOf P (.store t a x) (.st n a' x')
  | mapup {t : TypeId} {a k x : Operand} {a' k' x' : Opd} {q : EqK} {z : V} (h0 : mapOf P t = some (q, z)) (h1 : opd a = some a') (h2 : opd k = some k') (h3 : opd x = some x') : HeavyOf P (.mapUpdate t a k x) (.mapup q a' k' x')
  | insert {t : TypeId} {a k x : Operand} {a' k' x' : Opd} {q : EqK} {z : V} (h0 : mapOf P t = some (q, z)) (h1 : opd a = some a') (h2 : opd k = some k') (h3 : opd x = some x') : HeavyOf P (.insert t a k x) (.mapup q a' k' x')
  | ment {t : TypeId} {a k : Operand} {a' k' : Opd} {q : EqK} {z : V} (h0 : mapOf P t = some (q, z)) (h1 : opd a = some a') (h2 : opd k = some k') : HeavyOf P (.mapEntry t a k) (.ment q z a' k')
  | mst {t : TypeId} {a s x : Operand} {a' s' x' : Opd} (h1 : opd a = some a') (h2 : opd s = some s') (h3 : opd x = some x') : HeavyOf P (.entryStore t a s x) (.mst a' s' x')
  | app {c : Call} {s x : Operand} {s' x' : Opd} {e : TypeId} {u : TypeDesc} {j : TypeInfo} {z : V} (h0 : c.callee = .builtin .append) (h1 : c.args.toList = [s, x]) (h2 : opd s = some s') (h3 : opd x = some x')
      (h4 : c.argTypes[0]?.bind P.underlying = some (.slice e)) (h5 : c.argTypes[1]?.bind P.underlying = some u) (h6 : P.info? e = some j) (h7 : zeroOf P e = some z) (h8 : isIntD u = false) (h9 : j.size ≠ 0) (h10 : 0 < j.bytes) (h11 : z.cells.length = j.size) :
      HeavyOf P (.call c) (.app j.size j.bytes s' x')
  | cpy {c : Call} {d x : Operand} {d' x' : Opd} {e : TypeId} {j : TypeInfo} (h0 : c.callee = .builtin .copy) (h1 : c.args.toList = [d, x]) (h2 : opd d = some d') (h3 : opd x = some x')
      (h4 : c.argTypes[0]?.bind P.underlying = some (.slice e)) (h6 : P.info? e = some j) (h9 : j.size ≠ 0) : HeavyOf P (.call c) (.cpy j.size d' x')
  | clr {c : Call} {d : Operand} {d' : Opd} {kt et : TypeId} (h0 : c.callee = .builtin .clear) (h1 : c.args.toList = [d]) (h2 : opd d = some d') (h4 : c.argTypes[0]?.bind P.underlying = some (.map kt et)) : HeavyOf P (.call c) (.clr d')
  | nxt {x : Operand} {x' : Opd} (h : opd x = some x') : HeavyOf P (.next x true) (.nxt x')
  | call {c : Call} {f : Operand} {f' : Opd} {args : List Opd} (h0 : c.callee = .value f) (h1 : opd f = some f') (h2 : opds c.args.toList = some args) : HeavyOf P (.call c) (.call f' args)
theorem opds_two {xs : List Operand} {y z : Opd} (h : opds xs = some [y, z]) : ∃ a b, xs = [a, b] ∧ opd a = some y ∧ opd b = some z := by
  match xs, h with
  | [], h => simp [opds] at h
  | x :: r, h =>
    simp only [opds] at h
    split at h
    · rename_i a b ha hb
      cases h
      obtain ⟨x2, rfl, h2⟩ := opds_one hb
      exact ⟨x, x2, rfl, ha, h2⟩
    · cases h
theorem heavyOf {op : Op} {io : IOp} (hc : compOp P op = some io) (hk : kindOf io = .heavy) : HeavyOf P op io := by
  cases op <;> simp only [compOp] at hc <;> first | (cases hc; done) | skip
  case store t a x =>
    split at hc
    case h_2 => cases hc
    rename_i h0 h1 h2
    split at hc
    case isFalse => cases hc
    rename_i h3
    cases hc
    exact .st h0 h1 h2 h3
  case mapUpdate t a k x =>
    split at hc
    · rename_i h0 h1 h2 h3; cases hc; exact .mapup h0 h1 h2 h3
    · cases hc
  case insert t a k x =>
    split at hc
    · rename_i h0 h1 h2 h3; cases hc; exact .insert h0 h1 h2 h3
    · cases hc
  case mapEntry t a k =>
    split at hc
    · rename_i h0 h1 h2; cases hc; exact .ment h0 h1 h2
    · cases hc
  case entryStore t a s x =>
    split at hc
    · rename_i h1 h2 h3; cases hc; exact .mst h1 h2 h3
    · cases hc
  case next x b =>
    cases b <;> simp only at hc <;> first | (cases hc; done) | skip
    obtain ⟨x', hx, rfl⟩ := opd_map hc
    exact .nxt hx
  case call c =>
    unfold compCall at hc
    split at hc
    · cases hc
    rename_i args hargs
    split at hc
    · rename_i f hf
      obtain ⟨f', hf', rfl⟩ := opd_map hc
      exact .call hf hf' hargs
    · rename_i b hb
      unfold compCallB at hc
      split at hc
      · repeat' (split at hc)
        all_goals first | (cases hc; done) | (cases hc; cases hk; done)
      · cases hc; cases hk
      · cases hc; cases hk
      · obtain ⟨s, x, h1, h2, h3⟩ := opds_two hargs
        split at hc
        case h_2 => cases hc
        rename_i e u h4 h5
        split at hc
        case h_2 => cases hc
        rename_i j z h6 h7
        split at hc
        case isFalse => cases hc
        rename_i hcond
        cases hc
        simp only [Bool.and_eq_true, Bool.not_eq_true', decide_eq_true_eq] at hcond
        exact .app hb h1 h2 h3 h4 h5 h6 h7 hcond.1.1.1 hcond.1.1.2 hcond.1.2 hcond.2
      · obtain ⟨s, x, h1, h2, h3⟩ := opds_two hargs
        split at hc
        case h_2 => cases hc
        rename_i e h4
        split at hc
        case h_2 => cases hc
        rename_i j h6
        split at hc
        case isFalse => cases hc
        rename_i hcond
        cases hc
        exact .cpy hb h1 h2 h3 h4 h6 hcond
      · obtain ⟨d, h1, h2⟩ := opds_one hargs
        split at hc
        case h_2 => cases hc
        rename_i kt et h4
        cases hc
        exact .clr hb h1 h2 h4
      · cases hc
    · cases hc
  case slice t x lo hi mx =>
    split at hc
    · unfold compSlice at hc
      repeat' (split at hc)
      all_goals first | (cases hc; done) | (cases hc; cases hk; done)
    · cases hc
  case binOp op t x y yt =>
    split at hc
    · unfold compBin at hc
      split at hc
      · split at hc
        · cases hc; cases hk
        · cases hc; cases hk
        · cases hq : eqOf P t <;> simp only [hq, Option.map_none, Option.map_some] at hc <;> cases hc; cases hk
      · cases hc; cases hk
    · cases hc
  case build t ps =>
    unfold compBuild at hc
    split at hc
    · split at hc
      · rename_i fs _ _ _
        cases hq : bparts P fs ps.toList <;> simp only [hq, Option.map_none, Option.map_some] at hc <;> cases hc; cases hk
      · cases hc
    · split at hc
      · rename_i j _
        cases hq : aparts j.size ps.toList <;> simp only [hq, Option.map_none, Option.map_some] at hc <;> cases hc; cases hk
      · cases hc
    · cases hc
  case alloc t =>
    cases hz : zeroOf P t <;> simp only [hz, Option.map_none, Option.map_some] at hc <;> cases hc; cases hk
  case makeInterface t x =>
    split at hc <;> first | (cases hc; done) | (obtain ⟨_, _, rfl⟩ := opd_map hc; cases hk; done)
  case makeFunc fn a c =>
    cases fn <;> simp only at hc <;> first | (cases hc; done) | skip
    split at hc <;> cases hc; cases hk
  case makeMap t r => cases r <;> simp only at hc <;> cases hc; cases hk
  all_goals
    (try simp only [compIndex, compBuildS] at hc)
    (try (obtain ⟨_, _, rfl⟩ := opd_map hc; cases hk; done))
    repeat' (split at hc)
    all_goals first | (cases hc; done) | (cases hc; cases hk; done)
theorem HR.putObj (hr : HR CR m h.get w) {b : Nat} {s : Spot} {o o' : Blk S} (hm : m b = some s) (hg : h.get b = some o) (h1 : o.other = true) (h2 : o'.other = true) (ob : Obj) (hn : BR CR m s (World.putObj' w s.cb ob) o') :
    HR CR m (h.put b o').get (World.putObj' w s.cb ob) ∧ Fr m w m (World.putObj' w s.cb ob) := by
  have := hr.setObj hm hg h1 h2 ob hn
  refine ⟨?_, this.2⟩
  have e : (h.put b o').get = fun c => if c = b then some o' else h.get c := by funext c; rw [Hp.get_put]
  rw [e]
  exact this.1
theorem lt_of_get {w : World} {k : Nat} {o : Obj} (h : w.heap[k]? = some o) : k < w.heap.size := by
  rcases Nat.lt_or_ge k w.heap.size with h1 | h1
  · exact h1
  · rw [Array.getElem?_eq_none h1] at h; cases h
theorem ERs.modifyKey {y : Value} : ∀ {es : List (V × V × Nat)} {xs : List MapEntry}, ERs m es xs → ∀ (i : Nat) {k v : V} {n : Nat}, es[i]? = some (k, v, n) → VR m k y → ERs m es (xs.modify i fun e => { e with key := y })
  | _, _, .nil, i, k, v, n, h, _ => by simp at h
  | _, _, .cons hk hv hn hs, 0, k, v, n, h, hy => by
    simp at h
    obtain ⟨rfl, rfl, rfl⟩ := h
    simp only [List.modify_zero_cons]
    exact .cons hy hv hn hs
  | _, _, .cons hk hv hn hs, i + 1, k, v, n, h, hy => by
    simp only [List.modify_succ_cons]
    exact .cons hk hv hn (ERs.modifyKey hs i (by simpa using h) hy)
theorem clr_sound (hr : HR CR m h.get w) (hf : Fresh m h.n) {t kt et : TypeId} (ht : P.underlying t = some (.map kt et)) {ats : Array TypeId} (h0 : ats[0]? = some t) {a : V} {a' : Value} (va : VR m a a') {ty : TypeId} {v : V}
    (hv : clrF h a = some (v, h')) : ∃ vc w', (Builtin.clear_ ats ty #[a']).run P w = .ok vc w' ∧ VR m v vc ∧ HR CR m h'.get w' ∧ Fr m w m w' ∧ Fresh m h'.n := by
  unfold clrF at hv
  split at hv
  case h_2 => cases hv
  rename_i b
  split at hv
  case h_2 => cases hv
  rename_i es clk hg
  cases va with
  | map hm =>
  rename_i s
  obtain ⟨hown, xs, hw, hers⟩ := hr.blk b s _ hm hg
  have hlt := lt_of_get hw
  cases hv
  have hst := run_setObj (P := P) (o' := .map #[] clk) hw (by simp)
  have := hr.putObj hm hg rfl rfl (.map #[] clk) (o' := .map [] clk) ⟨hown, [], putObj_at w _ _ hlt, .nil⟩
  refine ⟨.tuple #[], _, ?_, .tup .nil, this.1, this.2, hf⟩
  simp only [Builtin.clear_, h0, List.getElem?_toArray, List.getElem?_cons_zero, Sem.run_bind, run_underlying' ht, Result.andThen_ok, run_getObj hw (by simp), Sem.run_pure]
  simp [hst]
theorem mapup_sound (hr : HR CR m h.get w) (hf : Fresh m h.n) {t : TypeId} {q : EqK} {z a k x : V} (h0 : mapOf P t = some (q, z)) {a' k' x' : Value} (va : VR m a a') (vk : VR m k k') (vx : VR m x x') {v : V}
    (hv : mapupF h q a k x = some (v, h')) : ∃ w', (Instr.mapUpdate t a' k' x').run P w = .ok () w' ∧ v = .undef ∧ HR CR m h'.get w' ∧ Fr m w m w' ∧ Fresh m h'.n := by
  obtain ⟨kt, et, hu, hq, hz⟩ := mapOf_spec h0
  unfold mapupF at hv
  split at hv
  case h_2 => cases hv
  rename_i b
  split at hv
  case h_2 => cases hv
  rename_i es clk hg
  cases va with
  | map hm =>
  rename_i s
  obtain ⟨hown, xs, hw, hers⟩ := hr.blk b s _ hm hg
  have hlt := lt_of_get hw
  split at hv
  · cases hv
  · rename_i i v0 n hfk
    cases hv
    obtain ⟨⟨r', h3, h4⟩, hs⟩ := findKey_run (w := w) hq vk hers hfk
    cases r' with
    | none => exact h4.elim
    | some p =>
      obtain ⟨i', xv⟩ := p
      obtain ⟨rfl, _, _, en, hen, _, _⟩ := h4
      have hfind : find q k es 0 = some (some (i, v0, n)) := by
        rw [findK, if_pos hs] at hfk
        exact hfk
      obtain ⟨k0, hk0, heq, _⟩ := find_spec hfind
      simp only [Nat.sub_zero] at hk0 hen
      obtain ⟨e2, he2, vk0, _, hb2⟩ := hers.get hk0
      rw [hen] at he2
      cases he2
      have hkk := eqk_key_eq hq.2 heq
      subst hkk
      have hbits : Instr.sameBits 10000 en.key k' = true := eqk_bits hq.2 heq vk0 vk
      have hmod := hers.modify (fun e => { e with key := k', val := x' }) (v := x) i hk0 (fun e _ hb => ⟨vk, vx, hb⟩)
      have hst := run_setObj (P := P) (o' := .map ⟨xs.modify i fun e => { e with key := k', val := x' }⟩ clk) hw (by simp)
      have := hr.putObj hm hg rfl rfl (.map ⟨xs.modify i fun e => { e with key := k', val := x' }⟩ clk) (o' := .map (setVal x es i) clk) ⟨hown, _, putObj_at w _ _ hlt, hmod⟩
      refine ⟨_, ?_, rfl, this.1, this.2, hf⟩
      have e3 : ((((⟨xs⟩ : Array MapEntry)[i]?).map (·.key)).getD k') = en.key := by simp [hen]
      have e4 : (⟨xs⟩ : Array MapEntry).modify i (fun e => { e with key := k', val := x' }) = ⟨xs.modify i fun e => { e with key := k', val := x' }⟩ := by
        apply Array.ext'; simp
      simp only [Instr.mapUpdate, Sem.run_bind, run_underlying' hu, Result.andThen_ok, run_getObj hw (by simp), checkKey_run hq vk hs, h3, e3, run_keyThatStays hbits, e4]
      exact hst
  · rename_i hfk
    cases hv
    obtain ⟨⟨r', h3, h4⟩, hs⟩ := findKey_run (w := w) hq vk hers hfk
    cases r' with
    | some p => exact h4.elim
    | none =>
      have hst := run_setObj (P := P) (o' := .map ((⟨xs⟩ : Array MapEntry).push { key := k', val := x', born := clk }) (clk + 1)) hw (by simp)
      have e4 : (⟨xs⟩ : Array MapEntry).push { key := k', val := x', born := clk } = ⟨xs ++ [{ key := k', val := x', born := clk }]⟩ := by apply Array.ext'; simp
      have := hr.putObj hm hg rfl rfl (.map ((⟨xs⟩ : Array MapEntry).push { key := k', val := x', born := clk }) (clk + 1)) (o' := .map (es ++ [(k, x, clk)]) (clk + 1))
        ⟨hown, xs ++ [{ key := k', val := x', born := clk }], by rw [putObj_at w _ _ hlt, e4], hers.append (.cons vk vx rfl .nil)⟩
      refine ⟨_, ?_, rfl, this.1, this.2, hf⟩
      simp only [Instr.mapUpdate, Sem.run_bind, run_underlying' hu, Result.andThen_ok, run_getObj hw (by simp), checkKey_run hq vk hs, h3]
      exact hst
theorem ment_sound (hr : HR CR m h.get w) (hf : Fresh m h.n) {t : TypeId} {q : EqK} {z a k : V} (h0 : mapOf P t = some (q, z)) {a' k' : Value} (va : VR m a a') (vk : VR m k k') {v : V}
    (hv : mentF h q z a k = some (v, h')) : ∃ vc w', (Instr.mapEntry t a' k').run P w = .ok vc w' ∧ VR m v vc ∧ HR CR m h'.get w' ∧ Fr m w m w' ∧ Fresh m h'.n := by
  obtain ⟨kt, et, hu, hq, hz⟩ := mapOf_spec h0
  obtain ⟨zi, zv, hi, hzv, hcv⟩ := zeroOf_spec hz
  unfold mentF at hv
  split at hv
  case h_2 => cases hv
  rename_i b
  split at hv
  case h_2 => cases hv
  rename_i es clk hg
  cases va with
  | map hm =>
  rename_i s
  obtain ⟨hown, xs, hw, hers⟩ := hr.blk b s _ hm hg
  have hlt := lt_of_get hw
  split at hv
  · cases hv
  · rename_i i v0 n hfk
    cases hv
    obtain ⟨⟨r', h3, h4⟩, hs⟩ := findKey_run (w := w) hq vk hers hfk
    cases r' with
    | none => exact h4.elim
    | some p =>
      obtain ⟨i', xv⟩ := p
      obtain ⟨rfl, hxv, _, en, hen, hval, hborn⟩ := h4
      have hfind : find q k es 0 = some (some (i, v0, n)) := by
        rw [findK, if_pos hs] at hfk
        exact hfk
      obtain ⟨k0, hk0, heq, _⟩ := find_spec hfind
      simp only [Nat.sub_zero] at hk0 hen
      obtain ⟨e2, he2, vk0, vv0, hb2⟩ := hers.get hk0
      rw [hen] at he2
      cases he2
      have hkk := eqk_key_eq hq.2 heq
      subst hkk
      have hbits : Instr.sameBits 10000 en.key k' = true := eqk_bits hq.2 heq vk0 vk
      have hst := run_setObj (P := P) (o' := .map ⟨xs.modify i fun e => { e with key := k' }⟩ clk) hw (by simp)
      have hmod : ERs m es (xs.modify i fun e => { e with key := k' }) := hers.modifyKey i hk0 vk
      have := hr.putObj hm hg rfl rfl (.map ⟨xs.modify i fun e => { e with key := k' }⟩ clk) (o' := .map es clk) ⟨hown, _, putObj_at w _ _ hlt, hmod⟩
      have hsub : HR CR m h.get (World.putObj' w s.cb (.map ⟨xs.modify i fun e => { e with key := k' }⟩ clk)) := by
        refine this.1.sub fun y sy o _ ho => ?_
        rw [Hp.get_put]
        split
        · rename_i hyb; subst hyb; rw [hg] at ho; exact ho
        · exact ho
      refine ⟨.tuple #[xv, goInt en.born], _, ?_, .tup (.cons hxv (.cons (by rw [← hborn]; exact .int _ _) .nil)), hsub, this.2, hf⟩
      have e3 : ((((⟨xs⟩ : Array MapEntry)[i]?).map (·.key)).getD k') = en.key := by simp [hen]
      have e5 : ((((⟨xs⟩ : Array MapEntry)[i]?).map (fun e => (e.born : Int))).getD 0) = (en.born : Int) := by simp [hen]
      have e4 : (⟨xs⟩ : Array MapEntry).modify i (fun e => { e with key := k' }) = ⟨xs.modify i fun e => { e with key := k' }⟩ := by
        apply Array.ext'; simp
      simp only [Instr.mapEntry, Sem.run_bind, run_underlying' hu, Result.andThen_ok, run_getObj hw (by simp), checkKey_run hq vk hs, h3, e3, run_keyThatStays hbits, e4, hst, e5, Sem.run_pure]
  · rename_i hfk
    cases hv
    obtain ⟨⟨r', h3, h4⟩, hs⟩ := findKey_run (w := w) hq vk hers hfk
    cases r' with
    | some p => exact h4.elim
    | none =>
      have hst := run_setObj (P := P) (o' := .map ((⟨xs⟩ : Array MapEntry).push { key := k', val := zv, born := clk }) (clk + 1)) hw (by simp)
      have e4 : (⟨xs⟩ : Array MapEntry).push { key := k', val := zv, born := clk } = ⟨xs ++ [{ key := k', val := zv, born := clk }]⟩ := by apply Array.ext'; simp
      have := hr.putObj hm hg rfl rfl (.map ((⟨xs⟩ : Array MapEntry).push { key := k', val := zv, born := clk }) (clk + 1)) (o' := .map (es ++ [(k, z, clk)]) (clk + 1))
        ⟨hown, xs ++ [{ key := k', val := zv, born := clk }], by rw [putObj_at w _ _ hlt, e4], hers.append (.cons vk (cv_VR hcv) rfl .nil)⟩
      refine ⟨.tuple #[zv, goInt clk], _, ?_, .tup (.cons (cv_VR hcv) (.cons (.int _ _) .nil)), this.1, this.2, hf⟩
      simp only [Instr.mapEntry, Sem.run_bind, run_underlying' hu, Result.andThen_ok, run_getObj hw (by simp), checkKey_run hq vk hs, h3, run_zeroValue hi hzv, hst, Sem.run_pure]
end
end Go.Ax
end
section
set_option linter.unusedSectionVars false
namespace Go.Ax
variable [Globs]
open Go.RowKit
section
variable {S : Type → Type} [Rep S] {CR : Nat → ICode → Code → Prop}
variable {P : Program} {m : GM} {ρ : Opd → V} {ρc : Operand → Value} {w : World} {h h' : Hp S}
theorem findBorn_run {n : Int} : ∀ {es : List (V × V × Nat)} {xs : List MapEntry}, ERs m es xs → ∀ (i0 i : Nat), findBorn n es i0 = some i →
    ∃ j, i = i0 + j ∧ xs.findIdx? (fun e => (e.born : Int) == n) = some j ∧ ∃ k v b, es[j]? = some (k, v, b)
  | _, _, .nil, i0, i, h => by simp [findBorn] at h
  | _, _, .cons (k := k) (v := v) (n := b) (e := e) hk hv hn hs, i0, i, h => by
    simp only [findBorn] at h
    split at h
    · rename_i he
      cases h
      exact ⟨0, rfl, by rw [List.findIdx?_cons, hn, he]; simp, k, v, b, rfl⟩
    · rename_i he
      obtain ⟨j, h1, h2, k', v', b', h3⟩ := findBorn_run hs (i0 + 1) i h
      refine ⟨j + 1, by omega, ?_, k', v', b', by simpa using h3⟩
      rw [List.findIdx?_cons]
      have : ((e.born : Int) == n) = false := by rw [beq_eq_false_iff_ne, hn]; exact he
      simp [this, h2]
theorem mst_sound (hr : HR CR m h.get w) (hf : Fresh m h.n) {t : TypeId} {a s x : V} {a' s' x' : Value} (va : VR m a a') (vs : VR m s s') (vx : VR m x x') {v : V}
    (hv : mstF h a s x = some (v, h')) : ∃ w', (Instr.entryStore t a' s' x').run P w = .ok () w' ∧ v = .undef ∧ HR CR m h'.get w' ∧ Fr m w m w' ∧ Fresh m h'.n := by
  unfold mstF at hv
  split at hv
  case h_2 => cases hv
  rename_i b k n
  split at hv
  case h_2 => cases hv
  rename_i es clk hg
  split at hv
  case h_2 => cases hv
  rename_i i hb
  cases hv
  cases va with
  | map hm =>
  rename_i sp
  obtain ⟨hown, xs, hw, hers⟩ := hr.blk b sp _ hm hg
  have hlt := lt_of_get hw
  obtain ⟨j, hj, hfi, k0, v0, b0, hget⟩ := findBorn_run hers 0 i hb
  obtain rfl : i = j := by omega
  have hmod := hers.modify (fun e => { e with val := x' }) (v := x) i hget (fun e hk hb => ⟨hk, vx, hb⟩)
  have hst := run_setObj (P := P) (o' := .map ⟨xs.modify i fun e => { e with val := x' }⟩ clk) hw (by simp)
  have := hr.putObj hm hg rfl rfl (.map ⟨xs.modify i fun e => { e with val := x' }⟩ clk) (o' := .map (setVal x es i) clk) ⟨hown, _, putObj_at w _ _ hlt, hmod⟩
  refine ⟨_, ?_, rfl, this.1, this.2, hf⟩
  have e4 : (⟨xs⟩ : Array MapEntry).modify i (fun e => { e with val := x' }) = ⟨xs.modify i fun e => { e with val := x' }⟩ := by
    apply Array.ext'; simp
  have e5 : (⟨xs⟩ : Array MapEntry).findIdx? (fun e => (e.born : Int) == n) = some i := by simpa using hfi
  simp only [Instr.entryStore, vs.int_inv, asInt, asIntOf, Sem.run_bind, Sem.run_pure, Result.andThen_ok, run_getObj hw (by simp), e5, e4]
  exact hst
theorem nxt_sound (hr : HR CR m h.get w) (hf : Fresh m h.n) {t : TypeId} {a : V} {a' : Value} (va : VR m a a') {v : V}
    (hv : nxtF h a = some (v, h')) : ∃ vc w', (Instr.next a' true t).run P w = .ok vc w' ∧ VR m v vc ∧ HR CR m h'.get w' ∧ Fr m w m w' ∧ Fresh m h'.n := by
  unfold nxtF at hv
  split at hv
  case h_2 => cases hv
  rename_i b
  split at hv
  case h_2 => cases hv
  rename_i s pos hg
  obtain ⟨sp, hm, hx⟩ := va.ptr_inv
  obtain ⟨hown, bs, hw, hbs, hco⟩ := hr.blk b sp _ hm hg
  have hlt := lt_of_get hw
  have hbe : (⟨s.toArray⟩ : ByteArray) = bs := by rw [← hbs]
  have hsz : s.length = bs.size := by rw [← hbs]; simp
  rw [hbe] at hv
  have ha : a' = .pointer (some ⟨sp.cb, 0, none⟩) := by rw [hx, hco]
  split at hv
  · rename_i hpos
    cases hv
    have hst := run_setObj (P := P) (o' := .stringIter bs (pos + (Utf8.decode bs pos).2)) hw (by simp)
    have := hr.putObj hm hg rfl rfl (.stringIter bs (pos + (Utf8.decode bs pos).2)) (o' := .iter s (pos + (Utf8.decode bs pos).2)) ⟨hown, bs, putObj_at w _ _ hlt, hbs, hco⟩
    refine ⟨.tuple #[.bool true, goInt pos, .int .i32 (Utf8.decode bs pos).1], _, ?_, .tup (.cons (.bool true) (.cons (.int _ _) (.cons (.int _ _) .nil))), this.1, this.2, hf⟩
    simp only [Instr.next, ha, Sem.run_bind, run_getObj hw (by simp), Result.andThen_ok]
    rw [if_pos (by omega)]
    simp only [Sem.run_bind, hst, Result.andThen_ok, Sem.run_pure]
  · rename_i hpos
    cases hv
    refine ⟨.tuple #[.bool false], w, ?_, .tup (.cons (.bool false) .nil), hr, Fr.refl _ _, hf⟩
    simp only [Instr.next, ha, Sem.run_bind, run_getObj hw (by simp), Result.andThen_ok]
    rw [if_neg (by omega)]
    rfl
theorem srcCells_of {h : Hp S} {b o len e : Nat} {cap : Option Nat} {xs : List V} (hr : rdG h.get b o (len * e) = some xs) : srcCells h e (.slice b o len cap e) = some (xs, len) := by
  simp only [srcCells]
  rw [if_pos (Nat.beq_refl e)]
  by_cases h0 : len = 0
  · subst h0
    rw [Nat.zero_mul] at hr
    unfold rdG at hr
    split at hr
    · split at hr
      · cases hr; simp
      · cases hr
    · cases hr
  · have : Nat.beq len 0 = false := by cases len with | zero => exact absurd rfl h0 | succ n => rfl
    rw [this, hr]; rfl
theorem srcCells_len {h : Hp S} {b o len len2 e : Nat} {cap : Option Nat} {xs : List V} (hr : srcCells h e (.slice b o len cap e) = some (xs, len2)) : len2 = len := by
  simp only [srcCells] at hr
  rw [if_pos (Nat.beq_refl e)] at hr
  split at hr
  · rename_i h0; cases hr; exact (Nat.eq_of_beq_eq_true h0).symm
  · cases hrd : rdG h.get b o (len * e) with
    | none => rw [hrd] at hr; cases hr
    | some ys => rw [hrd] at hr; cases hr; rfl
theorem src_sound (hr : HR CR m h.get w) {e n : Nat} {x : V} {x' : Value} (vx : VR m x x') {xs : List V} (hs : srcCells h e x = some (xs, n)) (W : World) (hW : ∀ a, W.cell? a = w.cell? a) :
    (Builtin.lenOf x').run P W = .ok n W ∧ xs.length = n * e ∧ xs.all V.scalar = true ∧ ∀ k, k ≤ n → ∃ ys : List Value, (Builtin.firstCells e k x').run P W = .ok ⟨ys⟩ W ∧ VRs m (xs.take (k * e)) ys := by
  unfold srcCells at hs
  split at hs
  · cases hs
    cases vx
    exact ⟨rfl, by simp, rfl, fun k hk => ⟨[], by simp [Builtin.firstCells], by simp; exact .nil⟩⟩
  · rename_i b o len cap e'
    split at hs
    case isFalse => cases hs
    rename_i he
    obtain rfl := Nat.eq_of_beq_eq_true he
    split at hs
    · rename_i h0
      obtain rfl := Nat.eq_of_beq_eq_true h0
      cases hs
      rcases vx.slice_inv with ⟨s, c, hm, rfl, _, _, _⟩ | ⟨ad, _, _, rfl⟩
      all_goals
        refine ⟨rfl, by simp, rfl, fun k hk => ⟨[], ?_, by simp; exact .nil⟩⟩
        obtain rfl : k = 0 := by omega
        simp [Builtin.firstCells, loadCells, loadCellsFrom]
    cases hrd : rdG h.get b o (len * e) with
    | none => simp [hrd] at hs
    | some cells =>
      simp only [hrd, Option.map_some, Option.some.injEq, Prod.mk.injEq] at hs
      obtain ⟨rfl, rfl⟩ := hs
      unfold rdG at hrd
      split at hrd
      case h_2 => cases hrd
      rename_i cs a hg
      split at hrd
      case isFalse => cases hrd
      rename_i hlen
      cases hrd
      have hl : ((cs.drop o).take (len * e)).length = len * e := by simp; omega
      rcases vx.slice_inv with ⟨s, c, hm, rfl, _, _, _⟩ | ⟨ad, rfl, _, rfl⟩
      · obtain ⟨c, el, fz, h1, h2, h3, h4, h5⟩ := hr.blk b s _ hm hg
        have hsc : ((cs.drop o).take (len * e)).all V.scalar = true := by
          rw [List.all_eq_true]
          intro v hv
          have := List.mem_of_mem_drop (List.mem_of_mem_take hv)
          obtain ⟨i, hi, rfl⟩ := List.getElem_of_mem this
          exact (h2 i _ (List.getElem?_eq_getElem hi)).1
        refine ⟨rfl, hl, hsc, fun k hk => ?_⟩
        have hke : k * e ≤ len * e := Nat.mul_le_mul_right _ hk
        obtain ⟨ys, hys, hat⟩ := VRs.collect (m := m) (fun j => c[s.co + o + j]?) (((cs.drop o).take (len * e)).take (k * e)) (fun j v hv => by
          have : cs[o + j]? = some v := by
            rw [List.getElem?_take] at hv
            split at hv
            · rw [List.getElem?_take] at hv
              split at hv
              · simpa [List.getElem?_drop] using hv
              · cases hv
            · cases hv
          obtain ⟨_, z, hz, hr⟩ := h2 (o + j) v this
          exact ⟨z, by rw [Nat.add_assoc]; exact hz, hr⟩)
        have hyl : ys.length = k * e := by rw [← hys.length]; simp; omega
        have hrun := run_loadCells_list (P := P) W (⟨s.cb, s.co + o, none⟩ : Addr) ys (fun j v hv => by
          rw [addr_add, hW, cell_at h1]; exact hat j v hv)
        rw [hyl] at hrun
        exact ⟨ys, hrun, hys⟩
      · refine ⟨rfl, hl, by simp, fun k hk => ⟨[], ?_, by simp; exact .nil⟩⟩
        obtain rfl : k = 0 := by omega
        simp [Builtin.firstCells, loadCells, loadCellsFrom]
  · rename_i s
    split at hs
    case isFalse => cases hs
    rename_i he
    obtain rfl := Nat.eq_of_beq_eq_true he
    cases hs
    obtain ⟨bs, rfl, hbs⟩ := vx.str_inv
    have hsz : bs.size = s.length := by rw [← hbs]; simp
    refine ⟨by simp [Builtin.lenOf, hsz], by simp [u8s], by simp [u8s, V.scalar], fun k hk => ?_⟩
    refine ⟨(s.take k).map fun b => .int .u8 b.toNat, ?_, ?_⟩
    · simp only [Builtin.firstCells, Sem.run_pure]
      congr 1
      apply Array.ext'
      simp [← hbs, List.extract_eq_take_drop]
    · rw [Nat.mul_one]
      have : (u8s s).take k = (s.take k).map fun b => V.int .u8 b.toNat := by simp [u8s, List.map_take]
      rw [this]
      generalize s.take k = l
      induction l with
      | nil => exact .nil
      | cons a l ih => exact .cons (.int _ _) ih
  · cases hs
theorem HR.setChild {g : Nat → Option (Blk S)} (hr : HR CR m g w) {b : Nat} {cs : List V} {a : BA} (hg : g b = some (.arr cs a)) :
    HR CR m (fun c => if c = b then some (.arr cs { a with child := true }) else g c) w := by
  have up : ∀ z cz az, (if z = b then some (Blk.arr cs { a with child := true }) else g z) = some (.arr cz az) →
      ∃ az', g z = some (.arr cz az') ∧ az'.ro = az.ro ∧ az'.anc = az.anc ∧ az'.sl = az.sl ∧ (az'.child = true → az.child = true) := by
    intro z cz az e
    by_cases hz : z = b
    · rw [if_pos hz] at e; cases e; subst hz; exact ⟨a, hg, rfl, rfl, rfl, fun _ => rfl⟩
    · rw [if_neg hz] at e; exact ⟨az, e, rfl, rfl, rfl, fun e => e⟩
  refine ⟨hr.lt, fun z s o hm ho => ?_, ?_, ?_, hr.gl⟩
  · by_cases hz : z = b
    · rw [if_pos hz] at ho; cases ho; subst hz
      obtain ⟨c, el, fz, h1, h2, h3, h4, h5⟩ := hr.blk z s _ hm hg
      exact ⟨c, el, fz, h1, h2, h3, h4, h5⟩
    · rw [if_neg hz] at ho; exact hr.blk z s o hm ho
  · intro x y sx sy cx ax cy ay hx hy gx gy hxy hcb
    obtain ⟨ax', e1, e2, e3, e4, e5⟩ := up x cx ax gx
    obtain ⟨ay', f1, f2, f3, f4, f5⟩ := up y cy ay gy
    rcases hr.sep x y sx sy cx ax' cy ay' hx hy e1 f1 hxy hcb with ⟨h1, h2⟩ | ⟨h1, h2, h3, h4, h5⟩
    · exact Or.inl ⟨by rw [← e2]; exact h1, by rw [← f2]; exact h2⟩
    · exact Or.inr ⟨by rw [← e2]; exact h1, by rw [← f2]; exact h2, by rw [← f3]; exact h3, e5 h4, by rw [← f4]; exact h5⟩
  · intro x y sx sy p q hx hy gx gy hp hq hxy
    have up2 : ∀ z (r : Blk S), (if z = b then some (Blk.arr cs { a with child := true }) else g z) = some r → r.other = true → g z = some r := by
      intro z r e hr
      by_cases hz : z = b
      · rw [if_pos hz] at e; cases e; cases hr
      · rw [if_neg hz] at e; exact e
    exact hr.sepO x y sx sy p q hx hy (up2 x p gx hp) (up2 y q gy hq) hp hq hxy
theorem HR.fell {g g' : Nat → Option (Blk S)} (hr : HR CR m g w) {N : Nat} {cs : List V} {A : BA} (hN : g N = some (.arr cs A)) (hro : A.ro = false) (hlast : ∀ y s, m y = some s → y ≤ N)
    (hN' : g' N = some (.arr cs {})) (hg : ∀ y, y ≠ N → g' y = g y ∨ g' y = some .dead) (ha : ∀ y, y ≠ N → y ∈ A.anc → g' y = some .dead) : HR CR m g' w := by
  have up : ∀ y (p : Blk S), y ≠ N → g' y = some p → p ≠ .dead → g y = some p := by
    intro y p hy e hp
    rcases hg y hy with h1 | h1
    · rw [← h1]; exact e
    · rw [h1] at e; cases e; exact absurd rfl hp
  refine ⟨hr.lt, fun b s o hb ho => ?_, fun x y sx sy cx ax cy ay hx hy gx gy hxy hcb => ?_, fun x y sx sy o p hx hy gx gy h1 h2 hxy => ?_, hr.gl⟩
  · by_cases hbN : b = N
    · subst hbN
      rw [hN'] at ho; cases ho
      obtain ⟨c, el, fz, k1, k2, k3, k4, k5⟩ := hr.blk b s _ hb hN
      exact ⟨c, el, fz, k1, k2, k3, ⟨k4.1, Nat.zero_le _⟩, fun _ => k5 hro⟩
    · cases o with
      | dead => trivial
      | _ => exact hr.blk b s _ hb (up b _ hbN ho (by simp))
  · have hxN : x ≠ N := by
      rintro rfl
      have := hlast y sy hy
      omega
    have gx0 := up x _ hxN gx (by simp)
    by_cases hyN : y = N
    · subst hyN
      rw [hN'] at gy; cases gy
      rcases hr.sep x y sx sy cx ax cs A hx hy gx0 hN hxy hcb with ⟨_, h⟩ | ⟨_, _, h, _⟩
      · rw [hro] at h; cases h
      · have := ha x hxN h
        rw [this] at gx; cases gx
    · exact hr.sep x y sx sy cx ax cy ay hx hy gx0 (up y _ hyN gy (by simp)) hxy hcb
  · have nx : ∀ z (q : Blk S), g' z = some q → q.other = true → g z = some q := by
      intro z q e hq
      by_cases hz : z = N
      · subst hz; rw [hN'] at e; cases e; cases hq
      · exact up z q hz e (by rintro rfl; cases hq)
    exact hr.sepO x y sx sy o p hx hy (nx x o gx h1) (nx y p gy h2) h1 h2 hxy
theorem HR.share {g : Nat → Option (Blk S)} (hr : HR CR m g w) {b N : Nat} {s : Spot} {cs xs : List V} {a : BA} (hm : m b = some s) (hg : g b = some (.arr cs a)) (hro : a.ro = false) (hch : a.child = false)
    (hN : ∀ y t, m y = some t → y < N) {o k : Nat} (ho : o + k = cs.length) (c : Array Value) (el : TypeId) (hc : w.heap[s.cb]? = some (.cells c el (0, 0))) (c' : Array Value) (hcs : c'.size = c.size)
    (hroom : o + k + xs.length ≤ s.room) (hsc : xs.all V.scalar = true)
    (hnew : ∀ (i : Nat) v, xs[i]? = some v → ∃ x, c'[s.co + o + k + i]? = some x ∧ VR m v x)
    (hsame : ∀ j, j < s.co + o + k ∨ s.co + o + k + xs.length ≤ j → c'[j]? = c[j]?) :
    HR CR (m.put N ⟨s.cb, s.co + o, s.room - o, true⟩) (fun z => if z = N then some (.arr (cs.drop o ++ xs) { anc := b :: a.anc, sl := k }) else if z = b then some (.arr cs { a with child := true }) else g z) (w.setRow s.cb c') ∧
      Fr m w (m.put N ⟨s.cb, s.co + o, s.room - o, true⟩) (w.setRow s.cb c') := by
  have hbN : b < N := hN b s hm
  have hNn : m N = none := by
    cases h : m N with
    | none => rfl
    | some t => exact absurd (hN N t h) (Nat.lt_irrefl _)
  have hm' := GM.put_mono (s := ⟨s.cb, s.co + o, s.room - o, true⟩) hNn
  obtain ⟨c0, el0, fz0, h1, h2, h3, ⟨h4, h4'⟩, h5⟩ := hr.blk b s _ hm hg
  obtain ⟨hown, hfz⟩ := h5 hro
  subst hfz
  rw [hc] at h1
  cases h1
  have heap_b := setRow_heap w s.cb c c' el (0, 0) hc
  have inv : ∀ z t, (m.put N ⟨s.cb, s.co + o, s.room - o, true⟩) z = some t → (z = N ∧ t = ⟨s.cb, s.co + o, s.room - o, true⟩) ∨ (z < N ∧ m z = some t) := by
    intro z t e
    by_cases hz : z = N
    · subst hz; simp only [GM.put, if_true, Option.some.injEq] at e; exact Or.inl ⟨rfl, e.symm⟩
    · simp only [GM.put, if_neg hz] at e; exact Or.inr ⟨hN z t e, e⟩
  have keep : ∀ y sy cy ay, m y = some sy → g y = some (.arr cy ay) → sy.cb = s.cb → sy.co + cy.length ≤ s.co + o + k := by
    intro y sy cy ay hmy e hcb
    rcases Nat.lt_trichotomy y b with hlt | heq | hgt
    · rcases hr.sep y b sy s cy ay cs a hmy hm e hg hlt hcb with ⟨_, hr'⟩ | ⟨_, _, _, _, hle⟩
      · rw [hro] at hr'; cases hr'
      · omega
    · subst heq
      rw [hm] at hmy; cases hmy
      rw [hg] at e; cases e
      omega
    · rcases hr.sep b y s sy cs a cy ay hm hmy hg e hgt hcb.symm with ⟨hr', _⟩ | ⟨_, _, _, hc', _⟩
      · rw [hro] at hr'; cases hr'
      · rw [hch] at hc'; cases hc'
  have old : ∀ y sy o', y < N → m y = some sy → g y = some o' → BR CR (m.put N ⟨s.cb, s.co + o, s.room - o, true⟩) sy (w.setRow s.cb c') o' := by
    intro y sy p _ hmy e
    have hbr := hr.blk y sy p hmy e
    cases p with
    | dead => trivial
    | arr cy ay =>
      by_cases hcb : sy.cb = s.cb
      · have hk := keep y sy cy ay hmy e hcb
        obtain ⟨c1, el1, fz1, k1, k2, k3, k4, k5⟩ := hbr
        rw [hcb, hc] at k1
        cases k1
        refine ⟨c', el, (0, 0), by rw [hcb]; exact heap_b, fun i v hv => ?_, by omega, k4, k5⟩
        obtain ⟨q1, x, q2, q3⟩ := k2 i v hv
        have hi : i < cy.length := (List.getElem?_eq_some_iff.1 hv).1
        exact ⟨q1, x, by rw [hsame _ (Or.inl (by omega))]; exact q2, q3.mono hm'⟩
      · exact hbr.mono hm' (setRow_other w s.cb sy.cb c' hcb)
    | _ =>
      refine hbr.mono hm' (setRow_other w s.cb sy.cb c' ?_)
      intro hcb
      obtain ⟨_, ob, k1, _⟩ := hbr
      rw [hcb, hc] at k1
      cases k1
  refine ⟨⟨fun z t e => ?_, fun z t p e hp => ?_, ?_, ?_, hr.gl.mono hm'⟩, ⟨hm', by rw [setRow_size]; exact Nat.le_refl _, fun cb _ hn => ?_, fun cb _ hmine => ?_, fun z t e _ => ?_, rfl, rfl, rfl⟩⟩
  · rw [setRow_size]
    rcases inv z t e with ⟨_, rfl⟩ | ⟨_, e'⟩
    · exact hr.lt b s hm
    · exact hr.lt z t e'
  · rcases inv z t e with ⟨rfl, rfl⟩ | ⟨hz, e'⟩
    · rw [if_pos rfl] at hp
      cases hp
      have hdl : (cs.drop o).length = k := by rw [List.length_drop]; omega
      refine ⟨c', el, (0, 0), heap_b, fun i v hv => ?_, by show s.co + o + (s.room - o) ≤ c'.size; omega, ⟨by rw [List.length_append, hdl]; show k + xs.length ≤ s.room - o; omega, by rw [List.length_append, hdl]; show k ≤ k + xs.length; omega⟩, fun _ => ⟨rfl, rfl⟩⟩
      by_cases hi : i < k
      · rw [List.getElem?_append_left (by rw [hdl]; exact hi), List.getElem?_drop] at hv
        obtain ⟨q1, x, q2, q3⟩ := h2 (o + i) v hv
        exact ⟨q1, x, by show c'[s.co + o + i]? = some x; rw [hsame _ (Or.inl (by omega)), Nat.add_assoc]; exact q2, q3.mono hm'⟩
      · rw [List.getElem?_append_right (by rw [hdl]; omega), hdl] at hv
        obtain ⟨x, q2, q3⟩ := hnew _ v hv
        refine ⟨all_scalar hsc _ _ hv, x, ?_, q3.mono hm'⟩
        rw [← q2]
        show c'[s.co + o + i]? = _
        congr 1
        omega
    · rw [if_neg (by omega)] at hp
      by_cases hzb : z = b
      · rw [if_pos hzb] at hp
        cases hp
        subst hzb
        obtain ⟨c1, el1, fz1, j1, j2, j3, j4, j5⟩ := old z t _ hz e' hg
        exact ⟨c1, el1, fz1, j1, j2, j3, j4, j5⟩
      · rw [if_neg hzb] at hp
        exact old z t p hz e' hp
  · intro x y sx sy cx ax cy ay hx hy gx gy hxy hcb
    have hxN : x ≠ N := by
      rintro rfl
      rcases inv y sy hy with ⟨rfl, _⟩ | ⟨hlt, _⟩
      · omega
      · omega
    rcases inv x sx hx with ⟨rfl, _⟩ | ⟨hxlt, hx'⟩
    · exact absurd rfl hxN
    rw [if_neg hxN] at gx
    have gx' : ∃ ax', g x = some (.arr cx ax') ∧ ax'.ro = ax.ro ∧ ax'.anc = ax.anc ∧ ax'.sl = ax.sl ∧ (x = b → ax.child = true) ∧ (ax'.child = true → ax.child = true) := by
      by_cases hxb : x = b
      · rw [if_pos hxb] at gx; cases gx; subst hxb; exact ⟨a, hg, rfl, rfl, rfl, fun _ => rfl, fun _ => rfl⟩
      · rw [if_neg hxb] at gx; exact ⟨ax, gx, rfl, rfl, rfl, fun e => absurd e hxb, fun e => e⟩
    obtain ⟨ax', e1, e2, e3, e4, e5, e6⟩ := gx'
    rcases inv y sy hy with ⟨rfl, rfl⟩ | ⟨hylt, hy'⟩
    · rw [if_pos rfl] at gy
      cases gy
      rcases Nat.lt_trichotomy x b with hlt | heq | hgt
      · rcases hr.sep x b sx s cx ax' cs a hx' hm e1 hg hlt hcb with ⟨_, hr'⟩ | ⟨q1, q2, q3, q4, q5⟩
        · rw [hro] at hr'; cases hr'
        · exact Or.inr ⟨by rw [← e2]; exact q1, rfl, List.mem_cons_of_mem _ q3, e6 q4, by show sx.co + cx.length ≤ s.co + o + k; omega⟩
      · subst heq
        rw [hm] at hx'; cases hx'
        rw [hg] at e1; cases e1
        exact Or.inr ⟨by rw [← e2]; exact hro, rfl, List.mem_cons_self, e5 rfl, by show s.co + cs.length ≤ s.co + o + k; omega⟩
      · rcases hr.sep b x s sx cs a cx ax' hm hx' hg e1 hgt hcb.symm with ⟨hr', _⟩ | ⟨_, _, _, hc', _⟩
        · rw [hro] at hr'; cases hr'
        · rw [hch] at hc'; cases hc'
    · rw [if_neg (by omega)] at gy
      have gy' : ∃ ay', g y = some (.arr cy ay') ∧ ay'.ro = ay.ro ∧ ay'.anc = ay.anc ∧ ay'.sl = ay.sl := by
        by_cases hyb : y = b
        · rw [if_pos hyb] at gy; cases gy; subst hyb; exact ⟨a, hg, rfl, rfl, rfl⟩
        · rw [if_neg hyb] at gy; exact ⟨ay, gy, rfl, rfl, rfl⟩
      obtain ⟨ay', f1, f2, f3, f4⟩ := gy'
      rcases hr.sep x y sx sy cx ax' cy ay' hx' hy' e1 f1 hxy hcb with ⟨q1, q2⟩ | ⟨q1, q2, q3, q4, q5⟩
      · exact Or.inl ⟨by rw [← e2]; exact q1, by rw [← f2]; exact q2⟩
      · exact Or.inr ⟨by rw [← e2]; exact q1, by rw [← f2]; exact q2, by rw [← f3]; exact q3, e6 q4, by rw [← f4]; exact q5⟩
  · intro x y sx sy p q hx hy gx gy hp hq hxy
    have up : ∀ z t (r : Blk S), (m.put N ⟨s.cb, s.co + o, s.room - o, true⟩) z = some t → (if z = N then some (Blk.arr (cs.drop o ++ xs) { anc := b :: a.anc, sl := k }) else if z = b then some (.arr cs { a with child := true }) else g z) = some r →
        r.other = true → m z = some t ∧ g z = some r := by
      intro z t r e1 e2 hr
      rcases inv z t e1 with ⟨rfl, _⟩ | ⟨hlt, e1'⟩
      · rw [if_pos rfl] at e2; cases e2; cases hr
      · rw [if_neg (by omega)] at e2
        by_cases hz : z = b
        · rw [if_pos hz] at e2; cases e2; cases hr
        · rw [if_neg hz] at e2; exact ⟨e1', e2⟩
    obtain ⟨a1, a2⟩ := up x sx p hx gx hp
    obtain ⟨b1, b2⟩ := up y sy q hy gy hq
    exact hr.sepO x y sx sy p q a1 b1 a2 b2 hp hq hxy
  · refine setRow_other w s.cb cb c' ?_
    rintro rfl
    exact hn ⟨b, s, hm, hown, rfl⟩
  · obtain ⟨z, t, e1, e2, e3⟩ := hmine
    rcases inv z t e1 with ⟨_, rfl⟩ | ⟨_, e'⟩
    · exact ⟨b, s, hm, hown, e3⟩
    · exact ⟨z, t, e', e2, e3⟩
  · rcases inv z t e with ⟨_, rfl⟩ | ⟨_, e'⟩
    · exact ⟨b, s, hm, rfl⟩
    · exact ⟨z, t, e', rfl⟩
end
end Go.Ax
end
