import Derived.Test.YtbgnifoklhediaaGreatDoorA3
import Derived.Test.YtbgnifoklhediaaGreatDoorRows
import Derived.OpenShut
import Derived.Carry
set_option linter.unusedSectionVars false
set_option linter.unusedVariables false
set_option linter.unusedSimpArgs false
section
set_option linter.unusedSectionVars false
namespace Go.Ax
variable [Globs]
theorem backs {g : Gz} {o : IOper} {L : Env} {M : Mem} {pre : List (Nat × Mem)} {bk : List Nat} (h : ReC g o L M) (hk : ∀ k ∈ bk, (k, M) ∈ pre) : ∀ k ∈ bk, ∃ Mk, (k, Mk) ∈ pre ∧ ReC g o L Mk :=
  fun k hkb => ⟨M, hk k hkb, h⟩
theorem conjR {g : Gz} {o : IOper} {L : Env} {M : Mem} {pre : List (Nat × Mem)} {bk : List Nat} {Q : Prop} (h : ReC g o L M) (hk : ∀ k ∈ bk, (k, M) ∈ pre) (hq : Q) : ReC g o L M ∧ (∀ k ∈ bk, ∃ Mk, (k, Mk) ∈ pre ∧ ReC g o L Mk) ∧ Q :=
  ⟨h, backs h hk, hq⟩
def sameIr : IFun := ⟨59, (ICode.seq (ICode.region [⟨(some 2), (.box (.t 0)), none⟩,
    ⟨(some 3), (.box (.t 1)), none⟩,
    ⟨(some 4), (.mv (.c (.bool false))), none⟩])
  (ICode.seq (ICode.seq (ICode.region [⟨(some 7), (.fa (.t 2) 0), none⟩,
    ⟨(some 8), (.ld false 1 (.t 7)), none⟩,
    ⟨(some 9), (.len false (.t 8)), none⟩,
    ⟨(some 10), (.fa (.t 3) 0), none⟩,
    ⟨(some 11), (.ld false 1 (.t 10)), none⟩,
    ⟨(some 12), (.len false (.t 11)), none⟩,
    ⟨(some 13), (.bin .neq (.t 9) (.t 12)), none⟩,
    ⟨(some 14), (.mv (.t 13)), none⟩,
    ⟨(some 15), (.fa (.t 2) 1), (some (14, false))⟩,
    ⟨(some 16), (.ld false 1 (.t 15)), (some (14, false))⟩,
    ⟨(some 17), (.len false (.t 16)), (some (14, false))⟩,
    ⟨(some 18), (.fa (.t 3) 1), (some (14, false))⟩,
    ⟨(some 19), (.ld false 1 (.t 18)), (some (14, false))⟩,
    ⟨(some 20), (.len false (.t 19)), (some (14, false))⟩,
    ⟨(some 21), (.bin .neq (.t 17) (.t 20)), (some (14, false))⟩,
    ⟨(some 22), (.pick (.t 14) (.c (.bool true)) (.t 21)), none⟩])
  (ICode.cond (.t 22)
    (ICode.seq (ICode.region [⟨(some 4), (.mv (.c (.bool false))), none⟩])
    ICode.ret)
    ICode.skip))
  (ICode.seq (ICode.seq (ICode.region [⟨(some 5), (.mv (.c (.int .i64 0))), none⟩])
  (ICode.block 0
    (ICode.loop
      (ICode.seq (ICode.seq (ICode.region [⟨(some 23), (.mv (.t 5)), none⟩,
        ⟨(some 24), (.fa (.t 2) 0), none⟩,
        ⟨(some 25), (.ld false 1 (.t 24)), none⟩,
        ⟨(some 26), (.len false (.t 25)), none⟩,
        ⟨(some 27), (.bin .lss (.t 23) (.t 26)), none⟩])
      (ICode.cond (.t 27)
        ICode.skip
        (ICode.exit 0)))
      (ICode.seq (ICode.block 1
        (ICode.seq (ICode.draw [⟨⟨(some 30), (.fa (.t 2) 0), none⟩, false, [], []⟩,
          ⟨⟨(some 31), (.ld false 1 (.t 30)), none⟩, false, [⟨(some 31), (.ld false 1 (.t 30)), none⟩], []⟩,
          ⟨⟨(some 32), (.mv (.t 5)), none⟩, false, [], []⟩,
          ⟨⟨(some 33), (.ia 1 (.t 31) (.t 32)), none⟩, false, [], []⟩,
          ⟨⟨(some 34), (.ld false 1 (.t 33)), none⟩, false, [⟨(some 34), (.ld false 1 (.t 33)), none⟩], []⟩,
          ⟨⟨(some 35), (.fa (.t 3) 0), none⟩, false, [], []⟩,
          ⟨⟨(some 36), (.ld false 1 (.t 35)), none⟩, false, [⟨(some 36), (.ld false 1 (.t 35)), none⟩], []⟩,
          ⟨⟨(some 37), (.mv (.t 5)), none⟩, false, [], []⟩,
          ⟨⟨(some 38), (.ia 1 (.t 36) (.t 37)), none⟩, false, [], []⟩,
          ⟨⟨(some 39), (.ld false 1 (.t 38)), none⟩, false, [⟨(some 39), (.ld false 1 (.t 38)), none⟩], []⟩,
          ⟨⟨(some 40), (.bin .neq (.t 34) (.t 39)), none⟩, false, [], []⟩])
        (ICode.cond (.t 40)
          (ICode.seq (ICode.region [⟨(some 4), (.mv (.c (.bool false))), none⟩])
          ICode.ret)
          ICode.skip)))
      (ICode.region [⟨(some 28), (.mv (.t 5)), none⟩,
        ⟨(some 29), (.bin .add (.t 28) (.c (.int .i64 1))), none⟩,
        ⟨(some 5), (.mv (.t 29)), none⟩]))))))
  (ICode.seq (ICode.seq (ICode.region [⟨(some 6), (.mv (.c (.int .i64 0))), none⟩])
  (ICode.block 2
    (ICode.loop
      (ICode.seq (ICode.seq (ICode.region [⟨(some 41), (.mv (.t 6)), none⟩,
        ⟨(some 42), (.fa (.t 2) 1), none⟩,
        ⟨(some 43), (.ld false 1 (.t 42)), none⟩,
        ⟨(some 44), (.len false (.t 43)), none⟩,
        ⟨(some 45), (.bin .lss (.t 41) (.t 44)), none⟩])
      (ICode.cond (.t 45)
        ICode.skip
        (ICode.exit 2)))
      (ICode.seq (ICode.block 3
        (ICode.seq (ICode.draw [⟨⟨(some 48), (.fa (.t 2) 1), none⟩, false, [], []⟩,
          ⟨⟨(some 49), (.ld false 1 (.t 48)), none⟩, false, [⟨(some 49), (.ld false 1 (.t 48)), none⟩], []⟩,
          ⟨⟨(some 50), (.mv (.t 6)), none⟩, false, [], []⟩,
          ⟨⟨(some 51), (.ia 1 (.t 49) (.t 50)), none⟩, false, [], []⟩,
          ⟨⟨(some 52), (.ld false 1 (.t 51)), none⟩, false, [⟨(some 52), (.ld false 1 (.t 51)), none⟩], []⟩,
          ⟨⟨(some 53), (.fa (.t 3) 1), none⟩, false, [], []⟩,
          ⟨⟨(some 54), (.ld false 1 (.t 53)), none⟩, false, [⟨(some 54), (.ld false 1 (.t 53)), none⟩], []⟩,
          ⟨⟨(some 55), (.mv (.t 6)), none⟩, false, [], []⟩,
          ⟨⟨(some 56), (.ia 1 (.t 54) (.t 55)), none⟩, false, [], []⟩,
          ⟨⟨(some 57), (.ld false 1 (.t 56)), none⟩, false, [⟨(some 57), (.ld false 1 (.t 56)), none⟩], []⟩,
          ⟨⟨(some 58), (.bin .neq (.t 52) (.t 57)), none⟩, false, [], []⟩])
        (ICode.cond (.t 58)
          (ICode.seq (ICode.region [⟨(some 4), (.mv (.c (.bool false))), none⟩])
          ICode.ret)
          ICode.skip)))
      (ICode.region [⟨(some 46), (.mv (.t 6)), none⟩,
        ⟨(some 47), (.bin .add (.t 46) (.c (.int .i64 1))), none⟩,
        ⟨(some 6), (.mv (.t 47)), none⟩]))))))
  (ICode.seq (ICode.region [⟨(some 4), (.mv (.c (.bool true))), none⟩])
  ICode.ret))))), [.tmp 4]⟩
section
attribute [local irreducible] W1 WO WC WD WF WV
theorem LstIn.slc {h : HP} {s : V} {cs : List V} {g : Gz} (l : LstIn h s cs) (hg : ∀ b, names s b = true → g b = h.get b) : Slc g [] s cs.length 1 (fun i _ => (cs[i]?).getD .undef) := by
  rcases l with ⟨rfl, rfl⟩ | ⟨b, rfl, h1, h2⟩
  · exact Or.inl ⟨rfl, rfl⟩
  · refine Or.inr ⟨b, 0, none, rfl, by simp, fun hp hs => ?_⟩
    have hb : g b = some (.arr cs {}) := by rw [hg b (Nat.beq_refl b)]; exact h2
    obtain ⟨k1, k2⟩ := hs.fz b _ hb
    refine ⟨cs, {}, k1, k2, fun i hi j hj => ?_⟩
    obtain rfl : j = 0 := by omega
    simp [List.getElem?_eq_getElem hi]
theorem Slc.up {g : Gz} {M : Mem} {s : V} {n e : Nat} {el : Nat → Nat → V} (h : Slc g [] s n e el) : Slc g M s n e el := by
  induction M with
  | nil => exact h
  | cons q M ih => exact ih.cons
theorem f_same {ft : FT FnR} {sm : Nat} (hf : ft.fn sm = some sameIr) (ho : ∀ al hp, ft.orc sm al hp = none) {g : Gz} {sn ss sn' ss' : V} {cn cs : List V} (h1 : Slc g [] sn cn.length 1 (fun i _ => (cn[i]?).getD .undef)) (h2 : Slc g [] ss cs.length 1 (fun i _ => (cs[i]?).getD .undef))
    (h1' : Slc g [] sn' cn.length 1 (fun i _ => (cn[i]?).getD .undef)) (h2' : Slc g [] ss' cs.length 1 (fun i _ => (cs[i]?).getD .undef)) (k1 : sn.scalar = true) (k2 : ss.scalar = true) (k1' : sn'.scalar = true) (k2' : ss'.scalar = true)
    (pn : ∀ v ∈ cn, ∃ n, v = .int .i64 n) (ps : ∀ v ∈ cs, ∃ s, v = .str s) (ln : cn.length ≤ limit) (ls : cs.length ≤ limit) :
    WF ft g sm [.agg [sn, ss], .agg [sn', ss']] [] fun v _ => v = .bool true := by
  have hlim : limit = 35184372088832 := rfl
  have b1 : (V.agg [sn, ss]).cells.all V.scalar = true := by simp [V.cells, k1, k2]
  have b2 : (V.agg [sn', ss']).cells.all V.scalar = true := by simp [V.cells, k1', k2']
  refine WF.intro hf (Nat.le_of_ble_eq_true rfl) ?_ ho
  refine WC.seq (WC.region (WO.cons (W1.box rfl b1 fun x => WO.cons (W1.box rfl b2 fun y => WO.cons (W1.mv rfl (WO.nil ?_))))))
  have hne : ∀ n : Nat, (!decide ((n : Int) = (n : Int))) = false := fun n => by simp
  repeat' first
    | refine W1.lenSlc rfl h1.up ?_
    | refine W1.lenSlc rfl h2.up ?_
    | refine W1.lenSlc rfl h1'.up ?_
    | refine W1.lenSlc rfl h2'.up ?_
    | refine W1.guard_y rfl (hne _) ?_
    | refine W1.pick_f rfl (hne _) rfl ?_
    | refine WC.cond_f rfl (hne _) ?_
    | refine WC.seq ?_
    | refine WC.block ?_
    | refine WC.region ?_
    | refine WC.skip ?_
    | refine WO.nil ?_
    | refine WO.cons ?_
    | refine W1.mv rfl ?_
    | refine W1.fa rfl ?_
    | refine W1.neq rfl rfl ?_
    | refine W1.ldS rfl .here rfl ?_
    | refine W1.ldS rfl (.there .here) rfl ?_
  · refine WC.loopE (ι := Int) (fun i => (cn.length - i).toNat) (fun i => [(2, .ptr x 0), (3, .ptr y 0), (5, .int .i64 i)]) (fun i M' => 0 ≤ i ∧ i ≤ cn.length ∧ M' = [(y, Arr1 [sn', ss'] {}), (x, Arr1 [sn, ss] {})]) ?_ 0 _ _
      (by repeat (first | exact subL.nil _ | refine subL.cons rfl ?_)) ⟨by omega, by omega, rfl⟩
    rintro i M' ⟨q0, q1, rfl⟩
    refine WC.seq ?_
    repeat' first
      | refine W1.lenSlc rfl h1.up ?_
      | refine WC.seq ?_
      | refine WC.block ?_
      | refine WC.region ?_
      | refine WC.draw ?_
      | refine WC.skip ?_
      | refine WC.exit ?_
      | refine WC.cond rfl (fun hc => ?_) (fun hc => ?_)
      | refine WO.nil ?_
      | refine WO.cons ?_
      | refine WD.cons0 ?_
      | refine WD.consR ?_
      | refine W1.mv rfl ?_
      | refine W1.fa rfl ?_
      | refine W1.lss rfl rfl ?_
      | refine W1.ldS rfl (.there .here) rfl (conjR (ReC.ldS rfl rfl (.there .here) rfl) (by simp) ?_)
      | refine W1.ldS rfl (.there .here) rfl ?_
    · have hlt := of_decide_eq_true hc
      obtain ⟨n, hn⟩ := pn _ (List.getElem_mem (show i.toNat < cn.length by omega))
      have hel : (cn[i.toNat]?).getD .undef = .int .i64 n := by rw [List.getElem?_eq_getElem (by omega)]; exact hn
      have heq : (!decide (n = n)) = false := by simp
      repeat' first
        | refine W1.iaSlc rfl rfl h1.up q0 hlt (fun bb oo hrd => ?_)
        | refine W1.iaSlc rfl rfl h1'.up q0 hlt (fun bb oo hrd' => ?_)
        | refine W1.ldR rfl (hel ▸ hrd 0 (by omega)) (conjR (ReC.ldR rfl rfl (hel ▸ hrd 0 (by omega))) (by simp) ?_)
        | refine W1.ldR rfl (hel ▸ hrd' 0 (by omega)) (conjR (ReC.ldR rfl rfl (hel ▸ hrd' 0 (by omega))) (by simp) ?_)
        | refine WC.cond_f rfl heq ?_
        | refine WC.region ?_
        | refine WC.skip ?_
        | refine WO.nil ?_
        | refine WO.cons ?_
        | refine WD.nil ?_
        | refine WD.cons0 ?_
        | refine WD.consR ?_
        | refine W1.mv rfl ?_
        | refine W1.fa rfl ?_
        | refine W1.neq rfl rfl ?_
        | refine W1.ldS rfl .here rfl (conjR (ReC.ldS rfl rfl .here rfl) (by simp) ?_)
        | refine W1.add rfl rfl (by omega) (by omega) ?_
      exact ⟨i + 1, by omega, by repeat (first | exact subL.nil _ | refine subL.cons rfl ?_), by omega, by omega, rfl⟩
    · refine WC.loopE (ι := Int) (fun i => (cs.length - i).toNat) (fun i => [(2, .ptr x 0), (3, .ptr y 0), (6, .int .i64 i)]) (fun i M' => 0 ≤ i ∧ i ≤ cs.length ∧ M' = [(y, Arr1 [sn', ss'] {}), (x, Arr1 [sn, ss] {})]) ?_ 0 _ _
        (by repeat (first | exact subL.nil _ | refine subL.cons rfl ?_)) ⟨by omega, by omega, rfl⟩
      rintro i M' ⟨q0, q1, rfl⟩
      refine WC.seq ?_
      repeat' first
        | refine W1.lenSlc rfl h2.up ?_
        | refine WC.seq ?_
        | refine WC.block ?_
        | refine WC.region ?_
        | refine WC.draw ?_
        | refine WC.skip ?_
        | refine WC.exit ?_
        | refine WC.cond rfl (fun hc => ?_) (fun hc => ?_)
        | refine WO.nil ?_
        | refine WO.cons ?_
        | refine WD.cons0 ?_
        | refine WD.consR ?_
        | refine W1.mv rfl ?_
        | refine W1.fa rfl ?_
        | refine W1.lss rfl rfl ?_
        | refine Exists.intro _ (And.intro (Res.tmp rfl Res.nil) ?_)
        | refine W1.ldS rfl (.there .here) rfl (conjR (ReC.ldS rfl rfl (.there .here) rfl) (by simp) ?_)
        | refine W1.ldS rfl (.there .here) rfl ?_
        | refine WC.ret ?_
      · have hlt := of_decide_eq_true hc
        obtain ⟨n, hn⟩ := ps _ (List.getElem_mem (show i.toNat < cs.length by omega))
        have hel : (cs[i.toNat]?).getD .undef = .str n := by rw [List.getElem?_eq_getElem (by omega)]; exact hn
        repeat' first
          | refine W1.iaSlc rfl rfl h2.up q0 hlt (fun bb oo hrd => ?_)
          | refine W1.iaSlc rfl rfl h2'.up q0 hlt (fun bb oo hrd' => ?_)
          | refine W1.ldR rfl (hel ▸ hrd 0 (by omega)) (conjR (ReC.ldR rfl rfl (hel ▸ hrd 0 (by omega))) (by simp) ?_)
          | refine W1.ldR rfl (hel ▸ hrd' 0 (by omega)) (conjR (ReC.ldR rfl rfl (hel ▸ hrd' 0 (by omega))) (by simp) ?_)
          | refine W1.binStr rfl rfl (v := .bool false) (by simp [binS, (bytesEq_iff n n).2 rfl]) ?_
          | refine WC.region ?_
          | refine WC.skip ?_
          | refine WC.cond_f rfl (by first | assumption | rfl) ?_
          | refine WO.nil ?_
          | refine WO.cons ?_
          | refine WD.nil ?_
          | refine WD.cons0 ?_
          | refine WD.consR ?_
          | refine W1.mv rfl ?_
          | refine W1.fa rfl ?_
          | refine W1.ldS rfl .here rfl (conjR (ReC.ldS rfl rfl .here rfl) (by simp) ?_)
          | refine W1.add rfl rfl (by omega) (by omega) ?_
        exact ⟨i + 1, by omega, by repeat (first | exact subL.nil _ | refine subL.cons rfl ?_), by omega, by omega, rfl⟩
      · rfl
end
theorem LstIn.scalar {h : HP} {s : V} {cs : List V} (l : LstIn h s cs) : s.scalar = true := by
  rcases l with ⟨rfl, _⟩ | ⟨b, rfl, _⟩ <;> rfl
theorem same_ok {ft : FT FnR} {sm : Nat} (hf : ft.fn sm = some sameIr) (ho : ∀ al hp, ft.orc sm al hp = none) : SameOk ft sm := by
  intro h sn ss sn' ss' cn cs l1 l2 l1' l2' pn ps ln ls
  let g : Gz := fun b => if names sn b = true ∨ names ss b = true ∨ names sn' b = true ∨ names ss' b = true then h.get b else none
  have hs : Sat g [] h := ⟨(fun b o e => by
    change (if _ then _ else _) = _ at e
    split at e
    · rename_i hn
      refine ⟨?_, e⟩
      rcases hn with hn | hn | hn | hn
      · exact (names_in l1 hn).1
      · exact (names_in l2 hn).1
      · exact (names_in l1' hn).1
      · exact (names_in l2' hn).1
    · cases e), by simp, by simp⟩
  obtain ⟨n, v, h', M', e1, _, k, rfl⟩ := f_same hf ho (l1.slc (g := g) fun b hb => by simp [g, hb]) (l2.slc fun b hb => by simp [g, hb]) (l1'.slc fun b hb => by simp [g, hb]) (l2'.slc fun b hb => by simp [g, hb]) l1.scalar l2.scalar l1'.scalar l2'.scalar pn ps ln ls h hs
  exact ⟨n, h', e1, fun b hb => k.keep b hb (by simp)⟩
end Go.Ax
end
section
set_option linter.unusedSectionVars false
namespace Go.Ax
variable [Globs]
open Go.RowKit Go.ChangeShapes
inductive Ty where
  | int | bool | str
  | sl (row : List Ty)
  deriving Inhabited
def sumTo (f : Nat → Nat) : Nat → Nat
  | 0 => 0
  | n + 1 => sumTo f n + f n
theorem sumTo_congr {f f' : Nat → Nat} : ∀ (n : Nat), (∀ i, i < n → f i = f' i) → sumTo f n = sumTo f' n
  | 0, _ => rfl
  | n + 1, h => by simp only [sumTo]; rw [sumTo_congr n fun i hi => h i (by omega), h n (by omega)]
mutual
def Cell (g : Gz) : Ty → V → Nat → Prop
  | .int, v, b => (∃ n, v = .int .i64 n) ∧ 1 ≤ b
  | .bool, v, b => (∃ t, v = .bool t) ∧ 1 ≤ b
  | .str, v, b => ∃ s : List UInt8, v = .str s ∧ s.length < b
  | .sl row, v, b => ∃ n rows kf, SlcR g [] v n row.length rows ∧ v.scalar = true ∧ n < b ∧ sumTo kf n < b ∧ ∀ i, i < n → Row g row (rows i) (kf i)
def Row (g : Gz) : List Ty → List V → Nat → Prop
  | [], vs, _ => vs = []
  | t :: ts, vs, b => ∃ v vs' k1 k2, vs = v :: vs' ∧ Cell g t v k1 ∧ Row g ts vs' k2 ∧ k1 + k2 ≤ b
end
theorem Row.length {g : Gz} : ∀ {ts : List Ty} {vs : List V} {b : Nat}, Row g ts vs b → vs.length = ts.length
  | [], _, _, h => by simp only [Row] at h; subst h; rfl
  | t :: ts, _, _, h => by
    simp only [Row] at h
    obtain ⟨v, vs', k1, k2, rfl, _, h2, _⟩ := h
    simp [h2.length]
theorem Slc.lessG {g g' : Gz} (hg : g.le g') {s : V} {n e : Nat} {el : Nat → Nat → V} (h : Slc g [] s n e el) : Slc g' [] s n e el := by
  rcases h with h | ⟨b, o, cap, h1, hc, h2⟩
  · exact Or.inl h
  · exact Or.inr ⟨b, o, cap, h1, hc, fun hp hs => h2 hp (hs.less hg)⟩
theorem SlcR.lessG {g g' : Gz} (hg : g.le g') {s : V} {n e : Nat} {row : Nat → List V} (h : SlcR g [] s n e row) : SlcR g' [] s n e row := ⟨h.1.lessG hg, h.2⟩
theorem SlcR.up {g : Gz} {M : Mem} {s : V} {n e : Nat} {row : Nat → List V} (h : SlcR g [] s n e row) : SlcR g M s n e row := ⟨h.1.up, h.2⟩
mutual
theorem Cell.lessG {g g' : Gz} (hg : g.le g') : ∀ {t : Ty} {v : V} {b : Nat}, Cell g t v b → Cell g' t v b
  | .int, _, _, h => by simp only [Cell] at h ⊢; exact h
  | .bool, _, _, h => by simp only [Cell] at h ⊢; exact h
  | .str, _, _, h => by simp only [Cell] at h ⊢; exact h
  | .sl row, _, _, h => by
    simp only [Cell] at h ⊢
    obtain ⟨n, rows, kf, h1, h2, h3, h4, h5⟩ := h
    exact ⟨n, rows, kf, h1.lessG hg, h2, h3, h4, fun i hi => (h5 i hi).lessG hg⟩
theorem Row.lessG {g g' : Gz} (hg : g.le g') : ∀ {ts : List Ty} {vs : List V} {b : Nat}, Row g ts vs b → Row g' ts vs b
  | [], _, _, h => by simp only [Row] at h ⊢; exact h
  | t :: ts, _, _, h => by
    simp only [Row] at h ⊢
    obtain ⟨v, vs', k1, k2, rfl, h1, h2, h3⟩ := h
    exact ⟨v, vs', k1, k2, rfl, h1.lessG hg, h2.lessG hg, h3⟩
end
theorem Cell.scalar {g : Gz} : ∀ {t : Ty} {v : V} {b : Nat}, Cell g t v b → v.scalar = true
  | .int, _, _, h => by simp only [Cell] at h; obtain ⟨⟨n, rfl⟩, _⟩ := h; rfl
  | .bool, _, _, h => by simp only [Cell] at h; obtain ⟨⟨n, rfl⟩, _⟩ := h; rfl
  | .str, _, _, h => by simp only [Cell] at h; obtain ⟨s, rfl, _⟩ := h; rfl
  | .sl row, _, _, h => by simp only [Cell] at h; obtain ⟨n, rows, kf, _, h2, _⟩ := h; exact h2
theorem Row.scalar {g : Gz} : ∀ {ts : List Ty} {vs : List V} {b : Nat}, Row g ts vs b → ∀ v ∈ vs, v.scalar = true
  | [], _, _, h => by simp only [Row] at h; subst h; simp
  | t :: ts, _, _, h => by
    simp only [Row] at h
    obtain ⟨v, vs', k1, k2, rfl, h1, h2, _⟩ := h
    intro x hx
    rcases List.mem_cons.1 hx with rfl | hx
    · exact h1.scalar
    · exact h2.scalar x hx
theorem Row.app {g : Gz} : ∀ {ts us : List Ty} {vs ws : List V} {a b : Nat}, Row g ts vs a → Row g us ws b → Row g (ts ++ us) (vs ++ ws) (a + b)
  | [], us, _, ws, a, b, h, k => by
    simp only [Row] at h; subst h
    cases us with
    | nil => simpa [Row] using k
    | cons u us =>
      simp only [List.nil_append, Row] at k ⊢
      obtain ⟨v, vs', k1, k2, rfl, h1, h2, h3⟩ := k
      exact ⟨v, vs', k1, k2, rfl, h1, h2, by omega⟩
  | t :: ts, us, _, ws, a, b, h, k => by
    simp only [Row, List.cons_append] at h ⊢
    obtain ⟨v, vs', k1, k2, rfl, h1, h2, h3⟩ := h
    exact ⟨v, vs' ++ ws, k1, k2 + b, rfl, h1, h2.app k, by omega⟩
def tyFs (P : Program) (T : TypeId → Option (List Ty)) : List Field → Nat → Option (List Ty)
  | [], _ => some []
  | f :: fs, off =>
    if Nat.beq f.offset off then
      match T f.type with
      | some r => if Nat.beq r.length (P.cellsOf f.type) then (tyFs P T fs (off + r.length)).map (r ++ ·) else none
      | none => none
    else none
def tyOf (P : Program) : Nat → TypeId → Option (List Ty)
  | 0, _ => none
  | F + 1, t => match P.underlying t with
    | some .bool => some [.bool]
    | some (.int .i64) => some [.int]
    | some .string => some [.str]
    | some (.slice e) => match tyOf P F e with
      | some r => if Nat.beq r.length (P.cellsOf e) && !Nat.beq r.length 0 then some [.sl r] else none
      | none => none
    | some (.struct fs) => match tyFs P (tyOf P F) fs.toList 0 with
      | some r => if Nat.beq r.length (P.cellsOf t) then some r else none
      | none => none
    | some (.array n e) => match tyOf P F e with
      | some r => if Nat.beq r.length (P.cellsOf e) && Nat.beq (n * r.length) (P.cellsOf t) then some (List.replicate n r).flatten else none
      | none => none
    | _ => none
mutual
theorem V.inD_imp {D E : Nat → Prop} (h : ∀ b, D b → E b) : ∀ {v : V}, v.inD D → v.inD E
  | .undef, _ | .bool _, _ | .int _ _, _ | .str _, _ | .nilptr, _ | .nilslice, _ | .nilmap, _ | .nilfunc, _ | .niliface, _ => trivial
  | .ptr b _, a => h b a
  | .slice b _ _ _ _, a => h b a
  | .map b, a => h b a
  | .func _ _ _, a => ⟨V.insD_imp h a.1, V.insD_imp h a.2⟩
  | .yield l, a => h l a
  | .iface _ v, a => by have := V.inD_imp h (v := v) a; exact this
  | .agg x, a => by have := V.insD_imp h (vs := x) a; exact this
  | .tup x, a => by have := V.insD_imp h (vs := x) a; exact this
theorem V.insD_imp {D E : Nat → Prop} (h : ∀ b, D b → E b) : ∀ {vs : List V}, V.insD D vs → V.insD E vs
  | [], _ => trivial
  | _ :: _, a => ⟨V.inD_imp h a.1, V.insD_imp h a.2⟩
end
structure Inp (P : Program) (w : World) (n : Nat) (g : Gz) (m : GM) : Prop where
  gl : Gl m
  out : ∀ b, n ≤ b → g b = none ∧ m b = none
  in_ : ∀ b, b < n → ∃ s cs, g b = some (.arr cs { ro := true }) ∧ m b = some s ∧ s.own = false ∧ s.cb < w.heap.size ∧ BR (CRc P) m s w (.arr cs { ro := true } : Blk FnR) ∧ V.insD (fun c => ∃ p, g c = some p) cs
structure Ext (n : Nat) (g : Gz) (m : GM) (n' : Nat) (g' : Gz) (m' : GM) : Prop where
  n : n ≤ n'
  g : g.le g'
  m : ∀ b s, m b = some s → m' b = some s
theorem Ext.refl (n : Nat) (g : Gz) (m : GM) : Ext n g m n g m := ⟨Nat.le_refl _, fun _ _ h => h, fun _ _ h => h⟩
theorem Ext.trans {n1 n2 n3 : Nat} {g1 g2 g3 : Gz} {m1 m2 m3 : GM} (h : Ext n1 g1 m1 n2 g2 m2) (k : Ext n2 g2 m2 n3 g3 m3) : Ext n1 g1 m1 n3 g3 m3 :=
  ⟨Nat.le_trans h.n k.n, fun b o e => k.g b o (h.g b o e), fun b s e => k.m b s (h.m b s e)⟩
theorem Inp.hr {P : Program} {w : World} {n : Nat} {g : Gz} {m : GM} (i : Inp P w n g m) : HR (CRc P) m g w := by
  have dom : ∀ b s, m b = some s → b < n := fun b s e => by
    rcases Nat.lt_or_ge b n with h | h
    · exact h
    · rw [(i.out b h).2] at e; cases e
  refine ⟨fun b s e => ?_, fun b s o e ho => ?_, fun x y sx sy cx ax cy ay hx hy gx gy _ _ => ?_, fun x y sx sy o p hx hy gx gy ho _ _ => ?_, i.gl⟩
  · obtain ⟨s', cs, _, h2, _, h4, _⟩ := i.in_ b (dom b s e)
    rw [e] at h2; cases h2; exact h4
  · obtain ⟨s', cs, h1, h2, _, _, h5, _⟩ := i.in_ b (dom b s e)
    rw [e] at h2; cases h2
    rw [ho] at h1; cases h1; exact h5
  · obtain ⟨_, _, h1, _⟩ := i.in_ x (dom x sx hx)
    obtain ⟨_, _, h2, _⟩ := i.in_ y (dom y sy hy)
    rw [gx] at h1; cases h1
    rw [gy] at h2; cases h2
    exact Or.inl ⟨rfl, rfl⟩
  · obtain ⟨_, _, h1, _⟩ := i.in_ x (dom x sx hx)
    rw [gx] at h1; cases h1; cases ho
theorem Inp.add {P : Program} {w : World} {n : Nat} {g : Gz} {m : GM} (i : Inp P w n g m) {s : Spot} {cs : List V} (hown : s.own = false) (hcb : s.cb < w.heap.size) (hbr : BR (CRc P) m s w (.arr cs { ro := true } : Blk FnR)) (hcl : V.insD (fun c => ∃ p, g c = some p) cs) :
    Inp P w (n + 1) (g.add n (.arr cs { ro := true })) (m.put n s) ∧ Ext n g m (n + 1) (g.add n (.arr cs { ro := true })) (m.put n s) := by
  have hgn := (i.out n (Nat.le_refl _)).1
  have hmn := (i.out n (Nat.le_refl _)).2
  have hle : g.le (g.add n (.arr cs { ro := true })) := Gz.le_add hgn
  have hmono : ∀ b t, m b = some t → (m.put n s) b = some t := GM.put_mono hmn
  have hcl' : ∀ {vs : List V}, V.insD (fun c => ∃ p, g c = some p) vs → V.insD (fun c => ∃ p, (g.add n (.arr cs { ro := true })) c = some p) vs := fun hv => V.insD_imp (fun b ⟨p, hp⟩ => ⟨p, hle b p hp⟩) hv
  refine ⟨⟨i.gl.mono hmono, fun b hb => ?_, fun b hb => ?_⟩, ⟨Nat.le_succ _, hle, hmono⟩⟩
  · have hne : b ≠ n := by omega
    exact ⟨by rw [Gz.add_ne g _ hne]; exact (i.out b (by omega)).1, by simp [GM.put, hne, (i.out b (by omega)).2]⟩
  · by_cases hbn : b = n
    · subst hbn
      exact ⟨s, cs, Gz.add_eq g _ _, by simp [GM.put], hown, hcb, hbr.mono hmono rfl, hcl' hcl⟩
    · obtain ⟨t, ds, h1, h2, h3, h4, h5, h6⟩ := i.in_ b (by omega)
      exact ⟨t, ds, hle _ _ h1, hmono _ _ h2, h3, h4, h5.mono hmono rfl, hcl' h6⟩
section
variable {H : Type} {enc : TypeId × Value → H} {P : Program} {w : World}
open Go.Proofs.YtbgnifoklhediaaGreatDoor
def HasRow (w : World) : Prop := ∃ (cb : Nat) (c : Array Value) (el : TypeId) (fz : Nat × Nat), w.heap[cb]? = some (.cells c el fz)
def OneOk (enc : TypeId × Value → H) (P : Program) (w : World) (N F : Nat) : Prop := ∀ (t : TypeId) (cs : List Value) (d : DataW H) (ps : List MemPlace) (tys : List Ty), DataW.trod enc P w 0 (fun _ => true) true N t cs = some (d, ps) → tyOf P F t = some tys →
  (∀ a l c, Value.slice (some a) l c ∈ cs → HasRow w) → ∀ (n : Nat) (g : Gz) (m : GM), Inp P w n g m → ∃ n' g' m' vs, Inp P w n' g' m' ∧ Ext n g m n' g' m' ∧ VRs m' vs cs ∧ Row g' tys vs (Rows.uptoBulk d) ∧ 1 ≤ Rows.uptoBulk d
theorem bulkAll_app : ∀ (x y : List (DataW H)), Rows.uptoBulkAll (x ++ y) = Rows.uptoBulkAll x + Rows.uptoBulkAll y
  | [], _ => by simp [Rows.uptoBulkAll]
  | a :: x, y => by simp [Rows.uptoBulkAll, bulkAll_app x y]; omega
theorem fields_ok {N F : Nat} (ih : OneOk enc P w N F) {cs : List Value} (hc : ∀ a l c, Value.slice (some a) l c ∈ cs → HasRow w) : ∀ (L : List Field) (xs : List (DataW H × List MemPlace)) (off : Nat) (tys : List Ty),
    (∀ (i : Nat) f, L[i]? = some f → DataW.trod enc P w 0 (fun _ => true) true N f.type ((cs.drop f.offset).take (P.cellsOf f.type)) = xs[i]?) → xs.length = L.length → tyFs P (tyOf P F) L off = some tys → cs.length = off + tys.length →
    ∀ (n : Nat) (g : Gz) (m : GM), Inp P w n g m → ∃ n' g' m' vs, Inp P w n' g' m' ∧ Ext n g m n' g' m' ∧ VRs m' vs (cs.drop off) ∧ Row g' tys vs (Rows.uptoBulkAll (xs.map (·.1)))
  | [], xs, off, tys, hx, hl, ht, hlen, n, g, m, i => by
    simp only [tyFs, Option.some.injEq] at ht; subst ht
    obtain rfl : xs = [] := by cases xs with | nil => rfl | cons _ _ => simp at hl
    refine ⟨n, g, m, [], i, .refl _ _ _, ?_, by simp [Row]⟩
    rw [List.drop_eq_nil_of_le (by simp at hlen; omega)]; exact .nil
  | f :: L, xs, off, tys, hx, hl, ht, hlen, n, g, m, i => by
    simp only [tyFs] at ht
    split at ht
    case isFalse => cases ht
    rename_i hoff
    obtain rfl := Nat.eq_of_beq_eq_true hoff
    split at ht
    case h_2 => cases ht
    rename_i r hr
    split at ht
    case isFalse => cases ht
    rename_i hrl
    have hrl' := Nat.eq_of_beq_eq_true hrl
    obtain ⟨ty2, ht2, rfl⟩ := Option.map_eq_some_iff.1 ht
    cases xs with
    | nil => simp at hl
    | cons x xs =>
      have h0 := hx 0 f rfl
      simp only [List.getElem?_cons_zero] at h0
      obtain ⟨d, ps⟩ := x
      obtain ⟨n1, g1, m1, vs1, i1, e1, v1, r1, _⟩ := ih f.type _ d ps r h0 hr (fun a l c hm => hc a l c (List.mem_of_mem_drop (List.mem_of_mem_take hm))) n g m i
      obtain ⟨n2, g2, m2, vs2, i2, e2, v2, r2⟩ := fields_ok ih hc L xs (f.offset + r.length) ty2 (fun j f' hf => by have := hx (j + 1) f' (by simpa using hf); simpa using this) (by simpa using hl) ht2 (by simp at hlen; omega) n1 g1 m1 i1
      refine ⟨n2, g2, m2, vs1 ++ vs2, i2, e1.trans e2, ?_, ?_⟩
      · have := (v1.mono e2.m).append v2
        rw [← hrl'] at this
        rw [show cs.drop (f.offset + r.length) = (cs.drop f.offset).drop r.length by rw [List.drop_drop]] at this
        rwa [List.take_append_drop] at this
      · simpa [Rows.uptoBulkAll] using (r1.lessG e2.g).app r2
def catTo (rows : Nat → List V) : Nat → List V
  | 0 => []
  | n + 1 => catTo rows n ++ rows n
theorem catTo_len {rows : Nat → List V} {e : Nat} : ∀ (n : Nat), (∀ i, i < n → (rows i).length = e) → (catTo rows n).length = n * e
  | 0, _ => by simp [catTo]
  | n + 1, h => by simp only [catTo, List.length_append]; rw [catTo_len n fun i hi => h i (by omega), h n (by omega), Nat.succ_mul]
theorem catTo_get {rows : Nat → List V} {e : Nat} : ∀ (n : Nat), (∀ i, i < n → (rows i).length = e) → ∀ i, i < n → ∀ j, j < e → (catTo rows n)[i * e + j]? = (rows i)[j]?
  | 0, _, i, hi, _, _ => by omega
  | n + 1, h, i, hi, j, hj => by
    have hl := catTo_len n fun i hi => h i (by omega)
    simp only [catTo]
    by_cases hin : i < n
    · have : i * e + j < n * e := by
        have := Nat.mul_le_mul_right e (show i + 1 ≤ n by omega)
        rw [Nat.succ_mul] at this; omega
      rw [List.getElem?_append_left (by omega)]
      exact catTo_get n (fun i hi => h i (by omega)) i hin j hj
    · obtain rfl : i = n := by omega
      rw [List.getElem?_append_right (by omega), hl]
      congr 1; omega
theorem elems_ok {N F : Nat} (ih : OneOk enc P w N F) {e : TypeId} {r : List Ty} (hr : tyOf P F e = some r) (xs : List (DataW H × List MemPlace)) (el : Nat → List Value) (hc : ∀ i, i < xs.length → ∀ a l c, Value.slice (some a) l c ∈ el i → HasRow w)
    (hx : ∀ i, i < xs.length → DataW.trod enc P w 0 (fun _ => true) true N e (el i) = xs[i]?) : ∀ (k : Nat), k ≤ xs.length → ∀ (n : Nat) (g : Gz) (m : GM), Inp P w n g m →
    ∃ (n' : Nat) (g' : Gz) (m' : GM) (rows : Nat → List V) (kf : Nat → Nat), Inp P w n' g' m' ∧ Ext n g m n' g' m' ∧ (∀ i, i < k → VRs m' (rows i) (el i) ∧ Row g' r (rows i) (kf i)) ∧ sumTo kf k = Rows.uptoBulkAll ((xs.take k).map (·.1)) ∧ k ≤ sumTo kf k
  | 0, _, n, g, m, i => ⟨n, g, m, fun _ => [], fun _ => 0, i, .refl _ _ _, fun i hi => by omega, by simp [sumTo, Rows.uptoBulkAll], Nat.zero_le _⟩
  | k + 1, hk, n, g, m, i => by
    obtain ⟨n1, g1, m1, rows, kf, i1, e1, h1, h2, h3⟩ := elems_ok ih hr xs el hc hx k (by omega) n g m i
    have hxk := hx k (by omega)
    rw [List.getElem?_eq_getElem (by omega)] at hxk
    obtain ⟨n2, g2, m2, vs, i2, e2, v2, r2, p2⟩ := ih e (el k) (xs[k]).1 (xs[k]).2 r (by rw [hxk]) hr (hc k (by omega)) n1 g1 m1 i1
    refine ⟨n2, g2, m2, fun i => if i = k then vs else rows i, fun i => if i = k then Rows.uptoBulk (xs[k]).1 else kf i, i2, e1.trans e2, fun i hi => ?_, ?_, ?_⟩
    · by_cases hik : i = k
      · subst hik; simp only [if_true]; exact ⟨v2, r2⟩
      · simp only [if_neg hik]
        obtain ⟨q1, q2⟩ := h1 i (by omega)
        exact ⟨q1.mono e2.m, q2.lessG e2.g⟩
    · have : sumTo (fun i => if i = k then Rows.uptoBulk (xs[k]).1 else kf i) k = sumTo kf k := sumTo_congr k fun i hi => by rw [if_neg (by omega)]
      simp only [sumTo, this, if_true]
      rw [h2, List.take_add_one, List.map_append, bulkAll_app, List.getElem?_eq_getElem (by omega)]
      simp [Rows.uptoBulkAll]
    · have : sumTo (fun i => if i = k then Rows.uptoBulk (xs[k]).1 else kf i) k = sumTo kf k := sumTo_congr k fun i hi => by rw [if_neg (by omega)]
      simp only [sumTo, this, if_true]
      omega
theorem cell_row {a : Addr} {v : Value} (h : w.cell? a = some v) : ∃ c el fz, w.heap[a.block]? = some (.cells c el fz) ∧ c[a.off]? = some v ∧ a.spot = none := by
  unfold World.cell? at h
  split at h
  · rename_i c el fz e
    split at h
    · cases h
    · rename_i hs
      refine ⟨c, el, fz, e, h, ?_⟩
      cases hsp : a.spot with
      | none => rfl
      | some x => rw [hsp] at hs; simp at hs
  · cases h
theorem one_ok : ∀ (N F : Nat), OneOk enc P w N F
  | 0, F => fun t cs d ps tys h => by simp [DataW.trod] at h
  | N + 1, 0 => fun t cs d ps tys _ ht => by simp [tyOf] at ht
  | N + 1, F + 1 => by
    intro t cs d ps tys h ht hrow n g m i
    simp only [tyOf] at ht
    split at ht
    · rename_i hu
      cases ht
      obtain ⟨b, rfl, e⟩ := DataW.trod_bool hu h; cases e
      exact ⟨n, g, m, [.bool b], i, .refl _ _ _, .cons (.bool b) .nil, ⟨_, _, 1, 0, rfl, ⟨⟨b, rfl⟩, Nat.le_refl _⟩, rfl, by simp [Rows.uptoBulk]⟩, by simp [Rows.uptoBulk]⟩
    · rename_i hu
      cases ht
      obtain ⟨q, rfl, e, _⟩ := DataW.trod_int hu h; cases e
      exact ⟨n, g, m, [.int .i64 q], i, .refl _ _ _, .cons (.int .i64 q) .nil, ⟨_, _, 1, 0, rfl, ⟨⟨q, rfl⟩, Nat.le_refl _⟩, rfl, by simp [Rows.uptoBulk]⟩, by simp [Rows.uptoBulk]⟩
    · rename_i hu
      cases ht
      obtain ⟨s, rfl, e, _⟩ := DataW.trod_string hu h; cases e
      refine ⟨n, g, m, [.str s.data.toList], i, .refl _ _ _, .cons (.str s) .nil, ?_, by simp [Rows.uptoBulk]⟩
      simp only [Row]
      exact ⟨_, _, s.data.toList.length + 1, 0, rfl, by simp [Cell], rfl, by simp [Rows.uptoBulk]⟩
    · rename_i e hu
      split at ht
      case h_2 => cases ht
      rename_i r hr
      split at ht
      case isFalse => cases ht
      rename_i hrc
      cases ht
      simp only [Bool.and_eq_true, Bool.not_eq_true'] at hrc
      have hrl : r.length = P.cellsOf e := Nat.eq_of_beq_eq_true hrc.1
      have hr0 : r.length ≠ 0 := fun e0 => by rw [e0] at hrc; exact absurd hrc.2 (by decide)
      rcases DataW.trod_slice hu h with ⟨rfl, e0⟩ | ⟨a, len, cap, elems, rest, N', hN, rfl, e0, _, hl, _, hlen, hel, hsp, _⟩
      · cases e0
        refine ⟨n, g, m, [.nilslice], i, .refl _ _ _, .cons .nilslice .nil, ?_, by simp [Rows.uptoBulk]⟩
        simp only [Row]
        refine ⟨_, _, 1, 0, rfl, ?_, rfl, by simp [Rows.uptoBulk]⟩
        simp only [Cell]
        exact ⟨0, fun _ => [], fun _ => 0, ⟨Or.inl ⟨rfl, rfl⟩, hr0, fun i hi => by omega⟩, rfl, by omega, by simp [sumTo], fun i hi => by omega⟩
      · cases e0
        obtain rfl : N' = N := by omega
        obtain ⟨hrl2, hrest⟩ := hsp rfl
        have hpos : 0 < P.cellsOf e := by omega
        have rd : ∀ i y, (w.cells? 0 (a.add (i * P.cellsOf e)) (P.cellsOf e)).bind (DataW.trod enc P w 0 (fun _ => true) true N' e) = some y → ∃ ci, w.cells? 0 (a.add (i * P.cellsOf e)) (P.cellsOf e) = some ci ∧ DataW.trod enc P w 0 (fun _ => true) true N' e ci = some y := fun i y hy => Option.bind_eq_some_iff.1 hy
        let el : Nat → List Value := fun i => (w.cells? 0 (a.add (i * P.cellsOf e)) (P.cellsOf e)).getD []
        have hx : ∀ i, i < elems.length → DataW.trod enc P w 0 (fun _ => true) true N' e (el i) = elems[i]? := by
          intro i hi
          have := hel i (by omega)
          rw [List.getElem?_eq_getElem hi] at this ⊢
          obtain ⟨ci, h1, h2⟩ := rd i _ this
          simp only [el, h1, Option.getD_some, h2]
        have each : ∀ i, i < cap → ∃ ci, w.cells? 0 (a.add (i * P.cellsOf e)) (P.cellsOf e) = some ci := by
          intro i hi
          by_cases hil : i < len
          · have := hel i hil
            rw [List.getElem?_eq_getElem (by omega)] at this
            obtain ⟨ci, h1, _⟩ := rd i _ this
            exact ⟨ci, h1⟩
          · have := hrest (i - len) (by omega)
            rw [List.getElem?_eq_getElem (by omega), show len + (i - len) = i by omega] at this
            obtain ⟨ci, h1, _⟩ := rd i _ this
            exact ⟨ci, h1⟩
        have place : ∀ i, i < cap → ∀ j, j < P.cellsOf e → ∃ c el fz v, w.heap[a.block]? = some (.cells c el fz) ∧ c[a.off + (i * P.cellsOf e + j)]? = some v ∧ (∀ ci, w.cells? 0 (a.add (i * P.cellsOf e)) (P.cellsOf e) = some ci → ci[j]? = some v) ∧ (i = 0 → j = 0 → a.spot = none) := by
          intro i hi j hj
          obtain ⟨ci, h1⟩ := each i hi
          obtain ⟨_, h2, h3⟩ := World.cells?_some h1
          have h4 := h3 j hj
          rw [List.getElem?_eq_getElem (by omega)] at h4
          obtain ⟨c, el, fz, k1, k2, k3⟩ := cell_row h4
          have hblk : ((a.add (i * P.cellsOf e)).add j).block = a.block := by unfold Addr.add; split <;> split <;> rfl
          have hoff : ((a.add (i * P.cellsOf e)).add j).off = a.off + (i * P.cellsOf e + j) := by unfold Addr.add; split <;> split <;> simp_all <;> omega
          rw [hblk] at k1
          rw [hoff] at k2
          refine ⟨c, el, fz, _, k1, k2, fun ci' h' => ?_, ?_⟩
          · rw [h1] at h'; cases h'; exact List.getElem?_eq_getElem (by omega)
          · rintro rfl rfl
            simpa [Addr.add] using k3
        have hne : ∀ i, i < elems.length → ∀ b l c, Value.slice (some b) l c ∈ el i → HasRow w := by
          intro i hi _ _ _ _
          obtain ⟨c, el, fz, v, k1, _⟩ := place i (by omega) 0 hpos
          exact ⟨_, c, el, fz, k1⟩
        obtain ⟨n1, g1, m1, rows, kf, i1, e1, hrows, hsum, hk⟩ := elems_ok (one_ok N' F) hr elems el hne hx elems.length (Nat.le_refl _) n g m i
        rw [List.take_length] at hsum
        have hrowlen : ∀ i, i < len → (rows i).length = r.length := fun i hi => (hrows i (by omega)).2.length
        have hcatlen := catTo_len (rows := rows) len hrowlen
        have hcl : V.insD (fun c => ∃ p, g1 c = some p) (catTo rows len) := by
          have : ∀ k, k ≤ len → V.insD (fun c => ∃ p, g1 c = some p) (catTo rows k) := by
            intro k hk
            induction k with
            | zero => trivial
            | succ k ih =>
              refine V.insD_iff.2 fun v hv => ?_
              rcases List.mem_append.1 hv with hv | hv
              · exact V.insD_iff.1 (ih (by omega)) v hv
              · have hd := V.insD_iff.1 (hrows k (by omega)).1.dom v hv
                have imp : ∀ v : V, V.inD (fun b => ∃ s, m1 b = some s) v → V.inD (fun c => ∃ p, g1 c = some p) v := by
                  intro v hv
                  have hin : ∀ b, (∃ s, m1 b = some s) → ∃ p, g1 b = some p := fun b ⟨s, hs⟩ => by
                    rcases Nat.lt_or_ge b n1 with h3 | h3
                    · obtain ⟨_, cs, h4, _⟩ := i1.in_ b h3; exact ⟨_, h4⟩
                    · rw [(i1.out b h3).2] at hs; cases hs
                  have := V.inD_imp hin hv
                  exact this
                exact imp v hd
          exact this len (Nat.le_refl _)
        have hscal : ∀ v ∈ catTo rows len, v.scalar = true := by
          have : ∀ k, k ≤ len → ∀ v ∈ catTo rows k, v.scalar = true := by
            intro k
            induction k with
            | zero => intro _ v hv; simp [catTo] at hv
            | succ k ih =>
              intro hk v hv
              rcases List.mem_append.1 hv with hv | hv
              · exact ih (by omega) v hv
              · exact (hrows k (by omega)).2.scalar v hv
          exact this len (Nat.le_refl _)
        have fin : ∀ (s : Spot), s.own = false → s.cb < w.heap.size → BR (CRc P) m1 s w (.arr (catTo rows len) { ro := true } : Blk FnR) → VR (m1.put n1 s) (.slice n1 0 len none r.length) (.slice (some a) len cap) →
            ∃ n' g' m' vs, Inp P w n' g' m' ∧ Ext n g m n' g' m' ∧ VRs m' vs [.slice (some a) len cap] ∧ Row g' [.sl r] vs (Rows.uptoBulk (.slice (elems.map (·.1)) (rest.map (·.1)) : DataW H)) ∧ 1 ≤ Rows.uptoBulk (.slice (elems.map (·.1)) (rest.map (·.1)) : DataW H) := by
          intro s ho hcb hbr hv
          obtain ⟨i2, e2⟩ := i1.add ho hcb hbr hcl
          refine ⟨_, _, _, [.slice n1 0 len none r.length], i2, e1.trans e2, .cons hv .nil, ?_, by simp [Rows.uptoBulk]⟩
          simp only [Row]
          refine ⟨_, _, Rows.uptoBulkAll (elems.map (·.1)) + 1, 0, rfl, ?_, rfl, by simp only [Rows.uptoBulk]; omega⟩
          simp only [Cell]
          refine ⟨len, rows, kf, ⟨Or.inr ⟨n1, 0, none, rfl, by simp, fun hp hs => ?_⟩, hr0, hrowlen⟩, rfl, by omega, by rw [← hsum, hlen]; omega, fun i hi => (hrows i (by omega)).2.lessG e2.g⟩
          obtain ⟨k1, k2⟩ := hs.fz n1 _ (Gz.add_eq g1 n1 _)
          refine ⟨_, _, k1, k2, fun i hi j hj => ?_⟩
          rw [Nat.zero_add, catTo_get len hrowlen i hi j hj]
          have := hrowlen i hi
          simp [List.getElem?_eq_getElem (show j < (rows i).length by omega)]
        by_cases hcap : cap = 0
        · subst hcap
          obtain rfl : len = 0 := by omega
          obtain ⟨cb, c, el', fz, hcb⟩ := hrow a 0 0 (by simp)
          refine fin ⟨cb, 0, 0, false⟩ rfl (lt_of_get hcb) ⟨c, el', fz, hcb, fun i v hv => by simp [catTo] at hv, by simp, by simp [catTo], by simp⟩ (.slice0 (s := ⟨cb, 0, 0, false⟩) 0 _ _ a (by simp) (by simp [GM.put]))
        · obtain ⟨c, el', fz, _, hcb, _, _, hsp0⟩ := place 0 (by omega) 0 hpos
          have hspot := hsp0 rfl rfl
          have ha : a = ⟨a.block, a.off + 0, none⟩ := by cases a; simp_all
          have hsame : ∀ {c' el'' fz'}, w.heap[a.block]? = some (.cells c' el'' fz') → c' = c := fun h' => by rw [hcb] at h'; cases h'; rfl
          have hsize : a.off + cap * P.cellsOf e ≤ c.size := by
            obtain ⟨c', _, _, v, k1, k2, _⟩ := place (cap - 1) (by omega) (P.cellsOf e - 1) (by omega)
            obtain rfl := hsame k1
            have := (Array.getElem?_eq_some_iff.1 k2).1
            have e3 : (cap - 1) * P.cellsOf e + P.cellsOf e = cap * P.cellsOf e := by
              rw [← Nat.succ_mul]; congr 1; omega
            omega
          refine fin ⟨a.block, a.off, cap * P.cellsOf e, false⟩ rfl (lt_of_get hcb) ⟨c, el', fz, hcb, fun q v hv => ?_, hsize, ⟨?_, Nat.zero_le _⟩, by simp⟩ ?_
          · have hq : q < len * r.length := by rw [← hcatlen]; exact (List.getElem?_eq_some_iff.1 hv).1
            have hq' := hq
            rw [hrl] at hq'
            have hi : q / P.cellsOf e < len := Nat.div_lt_of_lt_mul (by rw [Nat.mul_comm]; exact hq')
            have hj : q % P.cellsOf e < P.cellsOf e := Nat.mod_lt _ hpos
            have hqe : q / P.cellsOf e * P.cellsOf e + q % P.cellsOf e = q := by rw [Nat.mul_comm]; exact Nat.div_add_mod _ _
            have hget := catTo_get (rows := rows) len hrowlen (q / P.cellsOf e) hi (q % P.cellsOf e) (by rw [hrl]; exact hj)
            rw [hrl, hqe, hv] at hget
            obtain ⟨c', _, _, x, k1, k2, k3, _⟩ := place (q / P.cellsOf e) (by omega) _ hj
            obtain rfl := hsame k1
            rw [hqe] at k2
            obtain ⟨ci, h1⟩ := each (q / P.cellsOf e) (by omega)
            have h2 := k3 ci h1
            have hvr := (hrows (q / P.cellsOf e) (by omega)).1
            simp only [el, h1, Option.getD_some] at hvr
            obtain ⟨x', hx', hvx⟩ := hvr.get hget.symm
            rw [h2] at hx'; cases hx'
            exact ⟨hscal v (List.mem_of_getElem? hv), x, k2, hvx⟩
          · rw [hcatlen, hrl]; exact Nat.mul_le_mul_right _ hl
          · have := VR.slice (m := m1.put n1 ⟨a.block, a.off, cap * P.cellsOf e, false⟩) (b := n1) (s := ⟨a.block, a.off, cap * P.cellsOf e, false⟩) 0 len cap none r.length (by simp [GM.put]) (by simp) hl (by simp [hrl])
            rw [ha]
            exact this
    · rename_i fs hu
      split at ht
      case h_2 => cases ht
      rename_i r hr
      split at ht
      case isFalse => cases ht
      rename_i hrc
      have et := Option.some.inj ht
      subst et
      have hrl := Nat.eq_of_beq_eq_true hrc
      obtain ⟨xs, N', hN, e0, hlen, hxl, hx⟩ := DataW.trod_struct hu h
      cases e0
      obtain rfl : N' = N := by omega
      obtain ⟨n', g', m', vs, i', e', v', r'⟩ := fields_ok (one_ok N' F) hrow fs.toList xs 0 r (fun j f hf => hx j f (by simpa using hf)) (by simpa using hxl) hr (by omega) n g m i
      refine ⟨n', g', m', vs, i', e', by simpa using v', ?_, by simp [Rows.uptoBulk]⟩
      have := r'.app (us := []) (ws := []) (b := 1) (by simp [Row])
      simpa [Rows.uptoBulk] using this
    · rename_i k e hu
      split at ht
      case h_2 => cases ht
      rename_i r hr
      split at ht
      case isFalse => cases ht
      rename_i hrc
      cases ht
      simp only [Bool.and_eq_true] at hrc
      have hrl := Nat.eq_of_beq_eq_true hrc.1
      have hkl := Nat.eq_of_beq_eq_true hrc.2
      obtain ⟨xs, N', hN, e0, hlen, hxl, hx⟩ := DataW.trod_array hu h
      cases e0
      obtain rfl : N' = N := by omega
      let el : Nat → List Value := fun i => (cs.drop (i * P.cellsOf e)).take (P.cellsOf e)
      obtain ⟨n', g', m', rows, kf, i', e', hrows, hsum, _⟩ := elems_ok (one_ok N' F) hr xs el (fun j hj a l c hm => hrow a l c (List.mem_of_mem_drop (List.mem_of_mem_take hm))) (fun j hj => hx j (by omega)) xs.length (Nat.le_refl _) n g m i
      rw [List.take_length] at hsum
      have main : ∀ q, q ≤ k → VRs m' (catTo rows q) (cs.take (q * P.cellsOf e)) ∧ Row g' (List.replicate q r).flatten (catTo rows q) (sumTo kf q) := by
        intro q
        induction q with
        | zero => intro _; simp [catTo, Row]; exact .nil
        | succ q ih =>
          intro hq
          obtain ⟨a1, a2⟩ := ih (by omega)
          obtain ⟨b1, b2⟩ := hrows q (by omega)
          refine ⟨?_, ?_⟩
          · have := a1.append b1
            simp only [catTo]
            rw [Nat.succ_mul, List.take_add]
            exact this
          · have := a2.app b2
            rw [List.replicate_succ', List.flatten_append]
            simpa [catTo, sumTo] using this
      obtain ⟨a1, a2⟩ := main k (Nat.le_refl _)
      refine ⟨n', g', m', catTo rows k, i', e', ?_, ?_, by simp [Rows.uptoBulk]⟩
      · have e1 : cs.take (k * P.cellsOf e) = cs := by rw [← hrl, hkl, ← hlen]; exact List.take_length
        rw [e1] at a1; exact a1
      · have := a2.app (us := []) (ws := []) (b := 1) (by simp [Row])
        simp only [List.append_nil] at this
        rw [← hxl, hsum] at this
        simpa [Rows.uptoBulk, hxl] using this
    · cases ht
end
end Go.Ax
end
section
set_option linter.unusedSectionVars false
namespace Go.Ax
variable [Globs]
open Go.RowKit
def IntL (cs : List V) : Prop := ∀ v ∈ cs, ∃ n, v = .int .i64 n
def StrL (cs : List V) : Prop := ∀ v ∈ cs, ∃ s, v = .str s
theorem IntL.app {a b : List V} (h : IntL a) (k : IntL b) : IntL (a ++ b) := fun v hv => by
  rcases List.mem_append.1 hv with hv | hv
  · exact h v hv
  · exact k v hv
theorem StrL.app {a b : List V} (h : StrL a) (k : StrL b) : StrL (a ++ b) := fun v hv => by
  rcases List.mem_append.1 hv with hv | hv
  · exact h v hv
  · exact k v hv
def LM (s : V) (cs : List V) (M : Mem) : Prop := (s = .nilslice ∧ cs = [] ∧ M = []) ∨ ∃ b, s = .slice b 0 cs.length none 1 ∧ M = [(b, Arr1 cs {})]
structure HpM (b : Nat) (cn cs : List V) (M : Mem) : Prop where
  ex : ∃ sn ss Mn Ms, M.Perm ((b, Arr1 [sn, ss] {}) :: (Mn ++ Ms)) ∧ LM sn cn Mn ∧ LM ss cs Ms
  ints : IntL cn
  strs : StrL cs
def E2P : BP := fun o => o = E2
theorem HpM.new (b : Nat) : HpM b [] [] [(b, E2P)] :=
  ⟨⟨.nilslice, .nilslice, [], [], List.Perm.refl _, Or.inl ⟨rfl, rfl, rfl⟩, Or.inl ⟨rfl, rfl, rfl⟩⟩, by simp [IntL], by simp [StrL]⟩
variable {ft : FT FnR} {g : Gz}
theorem Kp.perm {M0 M0' M M' : Mem} {h0 h : HP} (k : Kp M0 h0 M h) (p0 : M0.Perm M0') (p : M.Perm M') : Kp M0' h0 M' h :=
  ⟨k.n, fun b hb hn => k.keep b hb fun q hq => hn q (p0.mem_iff.1 hq), fun q hq => by
    rcases k.from_ q (p.mem_iff.2 hq) with ⟨q0, h1, h2⟩ | h1
    · exact Or.inl ⟨q0, p0.mem_iff.1 h1, h2⟩
    · exact Or.inr h1⟩
theorem WF.permM {f : Nat} {args : List V} {M M' : Mem} {K : V → Mem → Prop} (hp : M.Perm M') (h : WF ft g f args M' K) : WF ft g f args M K := by
  intro hh hs
  obtain ⟨n, v, h', M1, h1, h2, h3, h4⟩ := h hh (hs.perm hp)
  exact ⟨n, v, h', M1, h1, h2, h3.perm hp.symm (List.Perm.refl _), h4⟩
theorem WF.trim {f : Nat} {args : List V} {M : Mem} {K : V → Mem → Prop} (h : WF ft g f args M fun v M' => ∃ M1 R, M'.Perm (R ++ M1) ∧ K v M1) : WF ft g f args M K := by
  intro hh hs
  obtain ⟨n, v, h', M', h1, h2, h3, M1, R, hp, hK⟩ := h hh hs
  refine ⟨n, v, h', M1, h1, (h2.perm hp).sub (List.sublist_append_right _ _), ⟨h3.n, h3.keep, fun q hq => h3.from_ q (hp.mem_iff.2 (by simp [hq]))⟩, hK⟩
theorem WC.permM {cur : Option Nat} {c : ICode} {L : Env} {M M' : Mem} {K : X → Env → Mem → Prop} (hp : M.Perm M') (h : WC ft g cur c L M' K) : WC ft g cur c L M K := by
  intro τ hh hl hs
  obtain ⟨n, x, τ', h', L1, M1, h1, l1, h2, h3, h4⟩ := h τ hh hl (hs.perm hp)
  exact ⟨n, x, τ', h', L1, M1, h1, l1, h2, h3.perm hp.symm (List.Perm.refl _), h4⟩
theorem WF.less {f : Nat} {args : List V} {M M' : Mem} {K : V → Mem → Prop} (hs : M'.Sublist M) (h : WF ft g f args M' K) : WF ft g f args M K := by
  intro hh hsat
  obtain ⟨n, v, h', M1, h1, h2, h3, h4⟩ := h hh (hsat.sub hs)
  exact ⟨n, v, h', M1, h1, h2, ⟨h3.n, fun b hb hn => h3.keep b hb fun p hp => hn p (hs.subset hp), fun p hp => by
    rcases h3.from_ p hp with ⟨p0, q1, q2⟩ | q1
    · exact Or.inl ⟨p0, hs.subset q1, q2⟩
    · exact Or.inr q1⟩, h4⟩
theorem WF.lift {ft : FT FnR} (ho : ∀ f args h x, ft.orc f args h = some x → ft.fn f = none) {f : Nat} {args : List V} {M : Mem} {K : V → Mem → Prop} (h : WF ((ft.fn : Nat → Option IFun) : FT FnR) g f args M K) : WF ft g f args M K := by
  intro hh hs
  obtain ⟨n, v, h', M1, h1, h2⟩ := h hh hs
  exact ⟨n, v, h', M1, (recN_plain ho n).call h1, h2⟩
def AgC (ft : FT FnR) (g : Gz) (f : Nat) (caps : List V) : Prop := ∀ b, WF ft g f (.ptr b 0 :: caps) [(b, E2P)] fun gv M1 => ∃ gf y2 cn cs Mh R, gv = .func gf [] y2 ∧ gf ≠ f ∧ M1.Perm (Mh ++ R) ∧ HpM b cn cs Mh ∧ cn.length ≤ limit ∧ cs.length ≤ limit ∧
  WF ft g gf y2 R fun _ _ => True
theorem LM.in1 {g : Gz} {M : Mem} {h : HP} {s : V} {cs : List V} {Mn : Mem} (l : LM s cs Mn) (hs : Sat g M h) (hm : ∀ p ∈ Mn, p ∈ M) : LstIn h s cs := by
  rcases l with ⟨rfl, rfl, _⟩ | ⟨b, rfl, rfl⟩
  · exact Or.inl ⟨rfl, rfl⟩
  · obtain ⟨h1, ⟨o, h2, h3⟩, _⟩ := hs.mem _ (hm (b, Arr1 cs {}) (by simp))
    exact Or.inr ⟨b, rfl, h1, by rw [h2, show o = .arr cs {} from h3]⟩
theorem LM.names {s : V} {cs : List V} {Mn : Mem} (l : LM s cs Mn) {x : Nat} (hx : names s x = true) : ∃ p ∈ Mn, p.1 = x := by
  rcases l with ⟨rfl, _, _⟩ | ⟨b, rfl, rfl⟩
  · cases hx
  · exact ⟨(b, Arr1 cs {}), by simp, Nat.eq_of_beq_eq_true hx⟩
def TabG (tb : Nat → List V) (g : Gz) : Prop := ∀ k ∈ Globs.gl, g k = some (.arr (tb k) { ro := true })
def TabIn (tb : Nat → List V) (h : HP) : Prop := ∀ k ∈ Globs.gl, h.get k = some (.arr (tb k) { ro := true })
theorem TabG.sat {tb : Nat → List V} {M : Mem} {h : HP} (ht : TabG tb g) (hs : Sat g M h) : TabIn tb h := fun k hk => (hs.fz k _ (ht k hk)).2
theorem AgC.again {f : Nat} {caps : List V} (hA : AgC ft g f caps) (hglb : ∀ k ∈ Globs.gl, ∃ o, g k = some o) {h : HP} (hs : Sat g [] h) (hg : GOk g) (hc : V.insD (fun c => ∃ p, g c = some p) caps) : AgainP ft (.func f [] caps) h := by
  obtain ⟨s1, k1⟩ := hs.push (p := E2P) (blk := E2) rfl
  obtain ⟨s2', k2'⟩ := s1.push (p := E2P) (blk := E2) rfl
  have s2 : Sat g [(h.n, E2P)] ((h.push E2).push E2) := s2'.sub (List.sublist_cons_self _ _)
  have get2 : ∀ b, b < h.n → ((h.push E2).push E2).get b = h.get b := fun b hb => by rw [Hp.get_push, if_neg (by show b ≠ h.n + 1; omega), Hp.get_push, if_neg (by omega)]
  obtain ⟨N1, v1, h1, M1, r1, t1, q1, gf, y2, cn, cs, Mh, R, rfl, hne, hp, hh, ln, ls, hw⟩ := hA h.n _ s2
  have t1' := t1.perm hp
  obtain ⟨N2, v2, h2, M2, r2, t2, q2, _⟩ := hw h1 (t1'.sub (List.sublist_append_right _ _))
  obtain ⟨sn, ss, Mn, Ms, hp2, lsn, lss⟩ := hh.ex
  have hn1 : h.n + 2 ≤ h1.n := q1.n
  have nd := t1'.nd
  rw [List.map_append, List.nodup_append] at nd
  obtain ⟨ndh, _, disj⟩ := nd
  have ids : ∀ p ∈ Mh ++ R, p.1 = h.n ∨ h.n + 2 ≤ p.1 := fun p hpm => by
    rcases q1.from_ p (hp.mem_iff.2 hpm) with ⟨p0, e1, e2⟩ | e1
    · rw [List.mem_singleton] at e1; subst e1; exact Or.inl e2.symm
    · exact Or.inr e1
  have notR : ∀ b, (∃ p ∈ Mh, p.1 = b) ∨ b < h.n ∨ b = h.n + 1 → ∀ p ∈ R, p.1 ≠ b := by
    intro b hb p hpR e
    rcases hb with ⟨p', hp', e'⟩ | hb | hb
    · exact disj p'.1 (List.mem_map.2 ⟨p', hp', rfl⟩) p.1 (List.mem_map.2 ⟨p, hpR, rfl⟩) (by omega)
    · rcases ids p (by simp [hpR]) with e' | e' <;> omega
    · rcases ids p (by simp [hpR]) with e' | e' <;> omega
  have inh : ∀ p ∈ Mh, p ∈ Mh ++ R := fun p hp => by simp [hp]
  have hb0 : (h.n, Arr1 [sn, ss] {}) ∈ Mh := hp2.mem_iff.2 (by simp)
  have inn : ∀ p ∈ Mn, p ∈ Mh := fun p hp => hp2.mem_iff.2 (by simp [hp])
  have ins : ∀ p ∈ Ms, p ∈ Mh := fun p hp => hp2.mem_iff.2 (by simp [hp])
  have keep2 : ∀ b, b < h1.n → ((∃ p ∈ Mh, p.1 = b) ∨ b < h.n ∨ b = h.n + 1) → h2.get b = h1.get b := fun b hb hq => q2.keep b hb (notR b hq)
  have st1 : h1.get h.n = some (.arr [sn, ss] {}) := by
    obtain ⟨_, ⟨o, e1, e2⟩, _⟩ := t1'.mem _ (inh _ hb0)
    rw [e1, show o = .arr [sn, ss] {} from e2]
  have o1 : ∀ b, b < h.n → h1.get b = h.get b := fun b hb => by
    rw [q1.keep b (by show b < h.n + 2; omega) (by intro p hp; rw [List.mem_singleton] at hp; subst hp; show h.n ≠ b; omega), get2 b hb]
  have ln1 := lsn.in1 t1' (fun p hp => inh p (inn p hp))
  have ls1 := lss.in1 t1' (fun p hp => inh p (ins p hp))
  have lst2 : ∀ {s : V} {c : List V} {Mx : Mem}, LM s c Mx → (∀ p ∈ Mx, p ∈ Mh) → LstIn h1 s c → LstIn h2 s c := by
    intro s c Mx l hin l1
    rcases l1 with e | ⟨b, rfl, e1, e2⟩
    · exact Or.inl e
    · obtain ⟨p, hp, e⟩ := l.names (x := b) (Nat.beq_refl b)
      exact Or.inr ⟨b, rfl, Nat.lt_of_lt_of_le e1 q2.n, by rw [keep2 b e1 (Or.inl ⟨p, hin p hp, e⟩)]; exact e2⟩
  have ndh' := (hp2.map (·.1)).nodup_iff.1 ndh
  rw [List.map_cons, List.nodup_cons] at ndh'
  refine ⟨⟨g, f, [], caps, [], y2, gf, max N1 N2, h1, h2, v2, sn, ss, cn, cs, rfl, ?_, trivial, hc, (recN_le ft (Nat.le_max_left N1 N2)).call r1, hne, (recN_le ft (Nat.le_max_right N1 N2)).call r2, hh.ints, hh.strs, ln, ls⟩⟩
  refine ⟨hs, hg, o1, fun b hb => by rw [keep2 b (by omega) (Or.inr (Or.inl hb)), o1 b hb], ?_, st1, by rw [keep2 h.n (by omega) (Or.inl ⟨_, hb0, rfl⟩)]; exact st1, hn1, q2.n, ln1, lst2 lsn inn ln1, ls1, lst2 lss ins ls1, ?_, ?_, ?_, hglb⟩
  · rw [keep2 (h.n + 1) (by omega) (Or.inr (Or.inr rfl)), q1.keep (h.n + 1) (by show h.n + 1 < h.n + 2; omega) (by intro p hp; rw [List.mem_singleton] at hp; subst hp; show h.n ≠ h.n + 1; omega), Hp.get_push]; exact if_pos rfl
  · intro x hx
    have : ∃ p ∈ Mn ++ Ms, p.1 = x := by
      rcases hx with hx | hx
      · obtain ⟨p, hp, e⟩ := lsn.names hx; exact ⟨p, by simp [hp], e⟩
      · obtain ⟨p, hp, e⟩ := lss.names hx; exact ⟨p, by simp [hp], e⟩
    obtain ⟨p, hp, e⟩ := this
    rcases ids p (inh p (by rcases List.mem_append.1 hp with hp | hp; exact inn p hp; exact ins p hp)) with e' | e'
    · exact absurd (List.mem_map.2 ⟨p, hp, e'⟩) ndh'.1
    · omega
  · intro v hv; obtain ⟨n, rfl⟩ := hh.ints v hv; trivial
  · intro v hv; obtain ⟨n, rfl⟩ := hh.strs v hv; trivial
open Classical in
noncomputable def rootFt (t : Nat → Option IFun) (fa sm aw : Nat) (tb : Nat → List V) : FT FnR :=
  ⟨t, fun f args h =>
    if f = fa then (match args with | [.func f' a b] => if f' ≠ sm ∧ AgainP (t : FT FnR) (.func f' a b) h then some (.bool true, h) else none | _ => none)
    else if f = aw ∧ args = [] ∧ TabIn tb h then some (.bool true, h) else none⟩
theorem rootFt_plain {t : Nat → Option IFun} {fa sm aw : Nat} {tb : Nat → List V} (h1 : t fa = none) (h2 : t aw = none) : ∀ f args h x, (rootFt t fa sm aw tb).orc f args h = some x → (rootFt t fa sm aw tb).fn f = none := by
  intro f args h x e
  simp only [rootFt] at e ⊢
  split at e
  · rename_i hf; rw [hf]; exact h1
  · split at e
    · rename_i hf; rw [hf.1]; exact h2
    · cases e
theorem rootFt_ok {P : Program} (hmx : P.follows .mixedOrders = true) {t : Nat → Option IFun} {fa sm aw : Nat} {tb : Nat → List V} (htb : TblOk P t) {fn : Func} (hfa : P.funcs[fa]? = some fn) (hco : compFun P fn = some (againIr sm))
    (hsame : t sm = some sameIr) (haw : ∀ h : HP, TabIn tb h → CallOk P aw [] h (.bool true) h) : FtOk P (rootFt t fa sm aw tb) := by
  refine ⟨htb, fun f args h v h' e => ?_, fun f args h v h' e => ?_⟩
  · simp only [rootFt] at e
    split at e
    · split at e
      · split at e
        · cases e; exact Nat.le_refl _
        · cases e
      · cases e
    · split at e
      · cases e; exact Nat.le_refl _
      · cases e
  · simp only [rootFt] at e
    split at e
    · rename_i hf
      subst hf
      split at e
      · split at e
        · rename_i hA
          cases e
          refine again_ok hmx (FtOk.plain htb) hfa hco (same_ok hsame (fun _ _ => rfl)) (fun f a b e => by cases e; exact hA.1) hA.2
        · cases e
      · cases e
    · split at e
      · rename_i hf; obtain ⟨rfl, rfl, ht⟩ := hf; cases e; exact haw h ht
      · cases e
theorem W1.again {t : Nat → Option IFun} {fa sm aw : Nat} {tb : Nat → List V} {d : Nat} {x : Opd} {f : Nat} {caps : List V} {L : Env} {M : Mem} {K : Env → Mem → Prop} (hx : lkO L x = some (.func f [] caps)) (hf : f ≠ sm) (htg : TabG tb g) (hg : GOk g) (hc : V.insD (fun c => ∃ p, g c = some p) caps)
    (hA : AgC (t : FT FnR) g f caps) (h : K ((d, .bool true) :: L) M) : W1 (rootFt t fa sm aw tb) g ⟨some d, .call (.c (.func fa [] [])) [x], none⟩ L M K := by
  intro τ hp hl hs
  have hev := hl.opd hx
  have hAg : AgainP (t : FT FnR) (.func f [] caps) hp := hA.again (fun k hk => ⟨_, htg k hk⟩) ⟨hs.fz, by simp, by simp⟩ hg hc
  refine ⟨1, putD τ (some d) (.bool true), hp, (d, .bool true) :: L, M, stepO_yes ?_, hl.put (some d) _, hs, Kp.refl _ _, h⟩
  have e1 : opF (recN (rootFt t fa sm aw tb) 1) (.call (.c (.func fa [] [])) [x]) (ev τ) hp = Ax.callV (recN (rootFt t fa sm aw tb) 1) (.func fa [] []) [ev τ x] hp := rfl
  rw [e1, hev]
  show callO (rootFt t fa sm aw tb) (recN _ 0) fa [.func f [] caps] hp = _
  unfold callO
  have : (rootFt t fa sm aw tb).orc fa [.func f [] caps] hp = some (.bool true, hp) := by
    show (if fa = fa then _ else _) = _
    rw [if_pos rfl]
    exact if_pos ⟨hf, hAg⟩
  rw [this]
theorem W1.awake {t : Nat → Option IFun} {fa sm aw : Nat} {tb : Nat → List V} {d : Nat} {L : Env} {M : Mem} {K : Env → Mem → Prop} (hne : aw ≠ fa) (htg : TabG tb g) (h : K ((d, .bool true) :: L) M) : W1 (rootFt t fa sm aw tb) g ⟨some d, .call (.c (.func aw [] [])) [], none⟩ L M K := by
  intro τ hp hl hs
  refine ⟨1, putD τ (some d) (.bool true), hp, (d, .bool true) :: L, M, stepO_yes ?_, hl.put (some d) _, hs, Kp.refl _ _, h⟩
  show callO (rootFt t fa sm aw tb) (recN _ 0) aw [] hp = _
  unfold callO
  have : (rootFt t fa sm aw tb).orc aw [] hp = some (.bool true, hp) := by
    show (if aw = fa then _ else _) = _
    rw [if_neg hne]
    exact if_pos ⟨rfl, rfl, htg.sat hs⟩
  rw [this]
end Go.Ax
end
section
set_option linter.unusedSectionVars false
namespace Go.Ax
variable [Globs]
def lim40 : Nat := 1099511627776
def PutA (ft : FT FnR) (g : Gz) (f : Nat) (rest : List V) (B : Nat) : Prop := ∃ ns ss : List V, ns.length ≤ B ∧ ss.length ≤ B ∧ IntL ns ∧ StrL ss ∧
  ∀ b cn cs M, HpM b cn cs M → cn.length + B ≤ lim40 → cs.length + B ≤ lim40 → WF ft g f (.ptr b 0 :: rest) M fun _ M' => HpM b (cn ++ ns) (cs ++ ss) M'
def PutT (ft : FT FnR) (f : Nat) (t : Ty) : Prop := ∀ g v k, Cell g t v k → PutA ft g f [v] k
def PutR (ft : FT FnR) (f : Nat) (ts : List Ty) : Prop := ∀ g vs k, Row g ts vs k → PutA ft g f [.agg vs] k
def putNIr : IFun := ⟨14, (ICode.region [⟨(some 4), (.mv (.t 0)), none⟩,
    ⟨(some 5), (.mv (.t 0)), none⟩,
    ⟨(some 6), (.nilck (.t 5)), none⟩,
    ⟨(some 7), (.fa (.t 6) 0), none⟩,
    ⟨(some 8), (.ld false 1 (.t 7)), none⟩,
    ⟨(some 9), (.mv (.t 1)), none⟩,
    ⟨(some 10), (.bldS 1 1 [(.int .i64 0)] [(0, 1, (.t 9))]), none⟩,
    ⟨(some 11), (.app 1 8 (.t 8) (.t 10)), none⟩,
    ⟨(some 12), (.nilck (.t 4)), none⟩,
    ⟨(some 13), (.fa (.t 12) 0), none⟩,
    ⟨none, (.st 1 (.t 13) (.t 11)), none⟩]), []⟩
def putSIr : IFun := ⟨14, (ICode.region [⟨(some 4), (.mv (.t 0)), none⟩,
    ⟨(some 5), (.mv (.t 0)), none⟩,
    ⟨(some 6), (.nilck (.t 5)), none⟩,
    ⟨(some 7), (.fa (.t 6) 1), none⟩,
    ⟨(some 8), (.ld false 1 (.t 7)), none⟩,
    ⟨(some 9), (.mv (.t 1)), none⟩,
    ⟨(some 10), (.bldS 1 1 [(.str [])] [(0, 1, (.t 9))]), none⟩,
    ⟨(some 11), (.app 1 16 (.t 8) (.t 10)), none⟩,
    ⟨(some 12), (.nilck (.t 4)), none⟩,
    ⟨(some 13), (.fa (.t 12) 1), none⟩,
    ⟨none, (.st 1 (.t 13) (.t 11)), none⟩]), []⟩
def putsIr (e : Nat) (ag : Bool) : IFun := ⟨31, (ICode.seq (ICode.region [⟨(some 7), (.mv (.t 0)), none⟩,
    ⟨(some 8), (.mv (.t 0)), none⟩,
    ⟨(some 9), (.nilck (.t 8)), none⟩,
    ⟨(some 10), (.fa (.t 9) 0), none⟩,
    ⟨(some 11), (.ld false 1 (.t 10)), none⟩,
    ⟨(some 12), (.mv (.t 1)), none⟩,
    ⟨(some 13), (.len false (.t 12)), none⟩,
    ⟨(some 14), (.bldS 1 1 [(.int .i64 0)] [(0, 1, (.t 13))]), none⟩,
    ⟨(some 15), (.app 1 8 (.t 11) (.t 14)), none⟩,
    ⟨(some 16), (.nilck (.t 7)), none⟩,
    ⟨(some 17), (.fa (.t 16) 0), none⟩,
    ⟨none, (.st 1 (.t 17) (.t 15)), none⟩])
  (ICode.seq (ICode.region [⟨(some 6), (.mv (.c (.int .i64 0))), none⟩])
  (ICode.block 0
    (ICode.loop
      (ICode.seq (ICode.seq (ICode.region [⟨(some 18), (.mv (.t 6)), none⟩,
        ⟨(some 19), (.mv (.t 1)), none⟩,
        ⟨(some 20), (.len false (.t 19)), none⟩,
        ⟨(some 21), (.bin .lss (.t 18) (.t 20)), none⟩])
      (ICode.cond (.t 21)
        ICode.skip
        (ICode.exit 0)))
      (ICode.seq (ICode.block 1
        (ICode.region [⟨(some 24), (.mv (.t 2)), none⟩,
          ⟨(some 25), (.mv (.t 0)), none⟩,
          ⟨(some 26), (.mv (.t 1)), none⟩,
          ⟨(some 27), (.mv (.t 6)), none⟩,
          ⟨(some 28), (.ia e (.t 26) (.t 27)), none⟩,
          ⟨(some 29), (.ld ag e (.t 28)), none⟩,
          ⟨(some 30), (.call (.t 24) [(.t 25), (.t 29)]), none⟩]))
      (ICode.region [⟨(some 22), (.mv (.t 6)), none⟩,
        ⟨(some 23), (.bin .add (.t 22) (.c (.int .i64 1))), none⟩,
        ⟨(some 6), (.mv (.t 23)), none⟩]))))))), []⟩
def putLIr (p fe : Nat) : IFun := ⟨7, (ICode.region [⟨(some 4), (.mv (.t 0)), none⟩,
    ⟨(some 5), (.mv (.t 1)), none⟩,
    ⟨(some 6), (.call (.c (.func p [] [])) [(.t 4), (.t 5), (.c (.func fe [] []))]), none⟩]), []⟩
def wipesIr (e : Nat) : IFun := ⟨16, (ICode.seq (ICode.region [⟨(some 4), (.mv (.c (.int .i64 0))), none⟩])
  (ICode.block 0
    (ICode.loop
      (ICode.seq (ICode.seq (ICode.region [⟨(some 5), (.mv (.t 4)), none⟩,
        ⟨(some 6), (.mv (.t 0)), none⟩,
        ⟨(some 7), (.len false (.t 6)), none⟩,
        ⟨(some 8), (.bin .lss (.t 5) (.t 7)), none⟩])
      (ICode.cond (.t 8)
        ICode.skip
        (ICode.exit 0)))
      (ICode.seq (ICode.block 1
        (ICode.region [⟨(some 11), (.mv (.t 1)), none⟩,
          ⟨(some 12), (.mv (.t 0)), none⟩,
          ⟨(some 13), (.mv (.t 4)), none⟩,
          ⟨(some 14), (.ia e (.t 12) (.t 13)), none⟩,
          ⟨(some 15), (.call (.t 11) [(.t 14)]), none⟩]))
      (ICode.region [⟨(some 9), (.mv (.t 4)), none⟩,
        ⟨(some 10), (.bin .add (.t 9) (.c (.int .i64 1))), none⟩,
        ⟨(some 4), (.mv (.t 10)), none⟩])))))), []⟩
theorem LM.scalar {s : V} {cs : List V} {M : Mem} (l : LM s cs M) : s.scalar = true := by
  rcases l with ⟨rfl, _⟩ | ⟨b, rfl, _⟩ <;> rfl
theorem perm3 (x y z : Nat × BP) (l : Mem) : (x :: y :: z :: l).Perm ([y] ++ (z :: ([x] ++ l))) :=
  (List.Perm.swap y x _).trans (List.Perm.cons _ (List.Perm.swap z x l))
section
variable {ft : FT FnR} {g : Gz}
attribute [local irreducible] W1 WO WC WD WF WV
theorem put_int {f : Nat} (hf : ft.fn f = some putNIr) (ho : ∀ a hp, ft.orc f a hp = none) (n : Int) : PutA ft g f [.int .i64 n] 1 := by
  refine ⟨[.int .i64 n], [], by simp, by simp, fun v hv => ⟨n, by simpa using hv⟩, by simp [StrL], fun b cn cs M hM hl1 hl2 => ?_⟩
  obtain ⟨sn, ss, Mn, Ms, hp, l1, l2⟩ := hM.ex
  have hss := l2.scalar
  have hl1' : cn.length + 1 ≤ 1099511627776 := hl1
  have hfin : ∀ (b' bb : Nat) (M' : Mem), M' = (b', Arr1 (cn ++ [.int .i64 n]) {}) :: (bb, Arr1 [.int .i64 n] {}) :: (b, Arr1 [.slice b' 0 (cn.length + 1) none 1, ss] {}) :: Ms →
      ∃ M1 R, M'.Perm (R ++ M1) ∧ HpM b (cn ++ [.int .i64 n]) (cs ++ []) M1 := by
    rintro b' bb M' rfl
    refine ⟨_, _, perm3 _ _ _ _, ⟨⟨_, ss, [(b', Arr1 (cn ++ [.int .i64 n]) {})], Ms, List.Perm.refl _, Or.inr ⟨b', by simp, rfl⟩, by simpa using l2⟩, hM.ints.app fun v hv => ⟨n, by simpa using hv⟩, by simpa using hM.strs⟩⟩
  refine WF.permM hp (WF.trim (WF.intro hf (Nat.le_of_ble_eq_true rfl) ?_ ho))
  rcases l1 with ⟨rfl, rfl, rfl⟩ | ⟨bn, rfl, rfl⟩
  · repeat' first
      | refine WC.region ?_
      | refine WO.nil ?_
      | refine WO.cons ?_
      | refine W1.mv rfl ?_
      | refine W1.nilck rfl ?_
      | refine W1.fa rfl ?_
      | refine W1.bldS rfl rfl rfl (fun bb => ?_)
      | refine Exists.intro _ (And.intro Res.nil ?_)
      | refine W1.ldS rfl .here rfl ?_
      | refine W1.appN (n := 1) rfl rfl (Src.row .here (Nat.le_of_ble_eq_true rfl)) (by decide) (by decide) (fun b' => ?_)
      | refine W1.st rfl rfl rfl rfl (.there (.there .here)) (Nat.le_of_ble_eq_true rfl) ?_
    exact hfin _ _ _ rfl
  · repeat' first
      | refine WC.region ?_
      | refine WO.nil ?_
      | refine WO.cons ?_
      | refine W1.mv rfl ?_
      | refine W1.nilck rfl ?_
      | refine W1.fa rfl ?_
      | refine W1.bldS rfl rfl rfl (fun bb => ?_)
      | refine Exists.intro _ (And.intro Res.nil ?_)
      | refine W1.ldS rfl .here rfl ?_
      | refine W1.app (n := 1) rfl rfl (Src.row .here (Nat.le_of_ble_eq_true rfl)) (by decide) (.there (.there .here)) (by simp) (by show (cn.length + 1) * 8 ≤ 35184372088832; omega) (fun b' => ?_)
      | refine W1.st rfl rfl rfl rfl (.there (.there .here)) (Nat.le_of_ble_eq_true rfl) ?_
    exact hfin _ _ _ rfl
theorem put_str {f : Nat} (hf : ft.fn f = some putSIr) (ho : ∀ a hp, ft.orc f a hp = none) (n : List UInt8) : PutA ft g f [.str n] 1 := by
  refine ⟨[], [.str n], by simp, by simp, by simp [IntL], fun v hv => ⟨n, by simpa using hv⟩, fun b cn cs M hM hl1 hl2 => ?_⟩
  obtain ⟨sn, ss, Mn, Ms, hp, l2, l1⟩ := hM.ex
  have hss := l2.scalar
  have hl2' : cs.length + 1 ≤ 1099511627776 := hl2
  have hfin : ∀ (b' bb : Nat) (M' : Mem), M' = (b', Arr1 (cs ++ [.str n]) {}) :: (bb, Arr1 [.str n] {}) :: (b, Arr1 [sn, .slice b' 0 (cs.length + 1) none 1] {}) :: Mn →
      ∃ M1 R, M'.Perm (R ++ M1) ∧ HpM b (cn ++ []) (cs ++ [.str n]) M1 := by
    rintro b' bb M' rfl
    refine ⟨_, _, perm3 _ _ _ _, ⟨⟨sn, _, Mn, [(b', Arr1 (cs ++ [.str n]) {})], List.Perm.cons _ List.perm_append_comm, by simpa using l2, Or.inr ⟨b', by simp, rfl⟩⟩, by simpa using hM.ints, hM.strs.app fun v hv => ⟨n, by simpa using hv⟩⟩⟩
  refine WF.permM (hp.trans (List.Perm.cons _ List.perm_append_comm)) (WF.trim (WF.intro hf (Nat.le_of_ble_eq_true rfl) ?_ ho))
  rcases l1 with ⟨rfl, rfl, rfl⟩ | ⟨bn, rfl, rfl⟩
  · repeat' first
      | refine WC.region ?_
      | refine WO.nil ?_
      | refine WO.cons ?_
      | refine W1.mv rfl ?_
      | refine W1.nilck rfl ?_
      | refine W1.fa rfl ?_
      | refine W1.bldS rfl rfl rfl (fun bb => ?_)
      | refine Exists.intro _ (And.intro Res.nil ?_)
      | refine W1.ldS rfl .here rfl ?_
      | refine W1.appN (n := 1) rfl rfl (Src.row .here (Nat.le_of_ble_eq_true rfl)) (by decide) (by decide) (fun b' => ?_)
      | refine W1.st rfl rfl rfl rfl (.there (.there .here)) (Nat.le_of_ble_eq_true rfl) ?_
    exact hfin _ _ _ rfl
  · repeat' first
      | refine WC.region ?_
      | refine WO.nil ?_
      | refine WO.cons ?_
      | refine W1.mv rfl ?_
      | refine W1.nilck rfl ?_
      | refine W1.fa rfl ?_
      | refine W1.bldS rfl rfl rfl (fun bb => ?_)
      | refine Exists.intro _ (And.intro Res.nil ?_)
      | refine W1.ldS rfl .here rfl ?_
      | refine W1.app (n := 1) rfl rfl (Src.row .here (Nat.le_of_ble_eq_true rfl)) (by decide) (.there (.there .here)) (by simp) (by show (cs.length + 1) * 16 ≤ 35184372088832; omega) (fun b' => ?_)
      | refine W1.st rfl rfl rfl rfl (.there (.there .here)) (Nat.le_of_ble_eq_true rfl) ?_
    exact hfin _ _ _ rfl
def elemV (ag : Bool) (row : List V) : V := if ag then .agg row else row.headD .undef
theorem catTo_len_le {f : Nat → List V} {k : Nat → Nat} : ∀ (n : Nat), (∀ i, i < n → (f i).length ≤ k i) → (catTo f n).length ≤ sumTo k n
  | 0, _ => by simp [catTo]
  | n + 1, h => by
    have := catTo_len_le n fun i hi => h i (by omega)
    have := h n (by omega)
    simp only [catTo, sumTo, List.length_append]; omega
theorem catTo_all {f : Nat → List V} {Q : V → Prop} : ∀ (n : Nat), (∀ i, i < n → ∀ v ∈ f i, Q v) → ∀ v ∈ catTo f n, Q v
  | 0, _, v, hv => by simp [catTo] at hv
  | n + 1, h, v, hv => by
    rcases List.mem_append.1 hv with hv | hv
    · exact catTo_all n (fun i hi => h i (by omega)) v hv
    · exact h n (by omega) v hv
theorem sumTo_le {f : Nat → Nat} {n : Nat} : ∀ {i : Nat}, i ≤ n → sumTo f i ≤ sumTo f n := by
  induction n with
  | zero => intro i hi; obtain rfl : i = 0 := by omega
            exact Nat.le_refl _
  | succ n ih =>
    intro i hi
    by_cases h : i = n + 1
    · subst h; exact Nat.le_refl _
    · have := ih (i := i) (by omega); simp only [sumTo]; omega
theorem W1.ldE {L : Env} {M : Mem} {K : Env → Mem → Prop} {d e : Nat} {ag : Bool} {x : Opd} {b o : Nat} {vs : List V} (hag : ag = true ∨ (ag = false ∧ e = 1)) (hx : lkO L x = some (.ptr b o)) (hn : vs.length = e) (hr : Rds g M b o vs) (h : K ((d, elemV ag vs) :: L) M) : W1 ft g ⟨some d, .ld ag e x, none⟩ L M K := by
  rcases hag with rfl | ⟨rfl, rfl⟩
  · exact W1.ldV hx hn hr h
  · refine W1.ldR hx (v := elemV false vs) (fun hp hs => ?_) h
    obtain ⟨cs, a, h1, h2, h3, h4⟩ := hr hp hs
    refine ⟨cs, a, h1, h2, ?_⟩
    have : ((cs.drop o).take vs.length)[0]? = vs[0]? := by rw [h4]
    rw [List.getElem?_take, if_pos (by omega), List.getElem?_drop, Nat.add_zero] at this
    rw [this]
    cases vs with
    | nil => simp at hn
    | cons v vs => rfl
theorem puts_ok {f e : Nat} {ag : Bool} (hf : ft.fn f = some (putsIr e ag)) (ho : ∀ a hp, ft.orc f a hp = none) {fe : Nat} {s : V} {n : Nat} {rows : Nat → List V} {kf : Nat → Nat} (hs : SlcR g [] s n e rows) (hag : ag = true ∨ (ag = false ∧ e = 1)) (hn : n ≤ 1099511627776)
    (helem : ∀ i, i < n → PutA ft g fe [elemV ag (rows i)] (kf i)) : PutA ft g f [s, .func fe [] []] (1 + sumTo kf n) := by
  have hch : ∀ i : Nat, ∃ p : List V × List V, i < n → p.1.length ≤ kf i ∧ p.2.length ≤ kf i ∧ IntL p.1 ∧ StrL p.2 ∧ ∀ b cn cs M, HpM b cn cs M → cn.length + kf i ≤ lim40 → cs.length + kf i ≤ lim40 →
      WF ft g fe (.ptr b 0 :: [elemV ag (rows i)]) M fun _ M' => HpM b (cn ++ p.1) (cs ++ p.2) M' := by
    intro i
    by_cases hi : i < n
    · obtain ⟨ns, ss, h⟩ := helem i hi; exact ⟨(ns, ss), fun _ => h⟩
    · exact ⟨([], []), fun h => absurd h hi⟩
  obtain ⟨pf, hpf⟩ := Classical.axiomOfChoice hch
  let nf := fun i => (pf i).1
  let sf := fun i => (pf i).2
  have hnl : ∀ i, i ≤ n → (catTo nf i).length ≤ sumTo kf i := fun i hi => catTo_len_le i fun j hj => (hpf j (by omega)).1
  have hsl : ∀ i, i ≤ n → (catTo sf i).length ≤ sumTo kf i := fun i hi => catTo_len_le i fun j hj => (hpf j (by omega)).2.1
  have hni : ∀ i, i ≤ n → IntL (catTo nf i) := fun i hi => catTo_all i fun j hj => (hpf j (by omega)).2.2.1
  have hsi : ∀ i, i ≤ n → StrL (catTo sf i) := fun i hi => catTo_all i fun j hj => (hpf j (by omega)).2.2.2.1
  refine ⟨.int .i64 n :: catTo nf n, catTo sf n, by have := hnl n (Nat.le_refl _); simp only [List.length_cons]; omega, by have := hsl n (Nat.le_refl _); omega, ?_, hsi n (Nat.le_refl _), fun b cn cs M hM hl1 hl2 => ?_⟩
  · intro v hv
    rcases List.mem_cons.1 hv with rfl | hv
    · exact ⟨_, rfl⟩
    · exact hni n (Nat.le_refl _) v hv
  obtain ⟨sn, ss, Mn, Ms, hp, l1, l2⟩ := hM.ex
  have hss := l2.scalar
  simp only [lim40] at hl1 hl2
  have hmid : ∀ (b' bb : Nat) (M' : Mem), M' = (b', Arr1 (cn ++ [.int .i64 n]) {}) :: (bb, Arr1 [.int .i64 n] {}) :: (b, Arr1 [.slice b' 0 (cn.length + 1) none 1, ss] {}) :: Ms →
      ∃ M1 R, M'.Perm (R ++ M1) ∧ HpM b (cn ++ [.int .i64 n]) (cs ++ []) M1 := by
    rintro b' bb M' rfl
    refine ⟨_, _, perm3 _ _ _ _, ⟨⟨_, ss, [(b', Arr1 (cn ++ [.int .i64 n]) {})], Ms, List.Perm.refl _, Or.inr ⟨b', by simp, rfl⟩, by simpa using l2⟩, hM.ints.app fun v hv => ⟨n, by simpa using hv⟩, by simpa using hM.strs⟩⟩
  have main : ∀ (L : Env) (M' : Mem), subL L [(0, .ptr b 0), (1, s), (2, .func fe [] []), (6, .int .i64 0)] → (∃ M1 R, M'.Perm (R ++ M1) ∧ HpM b (cn ++ [.int .i64 n]) (cs ++ []) M1) →
      ∀ c, c = (ICode.loop
      (ICode.seq (ICode.seq (ICode.region [⟨(some 18), (.mv (.t 6)), none⟩,
        ⟨(some 19), (.mv (.t 1)), none⟩,
        ⟨(some 20), (.len false (.t 19)), none⟩,
        ⟨(some 21), (.bin .lss (.t 18) (.t 20)), none⟩])
      (ICode.cond (.t 21)
        ICode.skip
        (ICode.exit 0)))
      (ICode.seq (ICode.block 1
        (ICode.region [⟨(some 24), (.mv (.t 2)), none⟩,
          ⟨(some 25), (.mv (.t 0)), none⟩,
          ⟨(some 26), (.mv (.t 1)), none⟩,
          ⟨(some 27), (.mv (.t 6)), none⟩,
          ⟨(some 28), (.ia e (.t 26) (.t 27)), none⟩,
          ⟨(some 29), (.ld ag e (.t 28)), none⟩,
          ⟨(some 30), (.call (.t 24) [(.t 25), (.t 29)]), none⟩]))
      (ICode.region [⟨(some 22), (.mv (.t 6)), none⟩,
        ⟨(some 23), (.bin .add (.t 22) (.c (.int .i64 1))), none⟩,
        ⟨(some 6), (.mv (.t 23)), none⟩])))) → WC ft g none c L M' (blockK 0 (retK g [] fun _ M' => HpM b (cn ++ .int .i64 n :: catTo nf n) (cs ++ catTo sf n) M')) := by
    rintro L M' hL ⟨M1, R, hperm, hM1⟩ c rfl
    refine WC.permM hperm (WC.drop (List.sublist_append_right _ _) ?_)
    refine WC.loopE (ι := Int) (fun i => (n - i).toNat) (fun i => [(0, .ptr b 0), (1, s), (2, .func fe [] []), (6, .int .i64 i)]) (fun i M' => 0 ≤ i ∧ i ≤ n ∧ HpM b (cn ++ .int .i64 n :: catTo nf i.toNat) (cs ++ catTo sf i.toNat) M') ?_ 0 _ _
      hL ⟨by omega, by omega, by simpa [catTo] using hM1⟩
    rintro i M2 ⟨q0, q1, hM2⟩
    refine WC.seq ?_
    repeat' first
      | refine W1.lenSlc rfl hs.up.1 ?_
      | refine WC.seq ?_
      | refine WC.block ?_
      | refine WC.region ?_
      | refine WC.skip ?_
      | refine WC.exit ?_
      | refine WC.cond rfl (fun hc => ?_) (fun hc => ?_)
      | refine WO.nil ?_
      | refine WO.cons ?_
      | refine W1.mv rfl ?_
      | refine W1.lss rfl rfl ?_
      | refine Exists.intro _ (And.intro Res.nil ?_)
    · have hlt := of_decide_eq_true hc
      have hi : i.toNat < n := by omega
      obtain ⟨r1, r2, r3, r4, r5⟩ := hpf i.toNat hi
      have hsum : sumTo kf i.toNat + kf i.toNat ≤ sumTo kf n := by have := sumTo_le (f := kf) (n := n) (i := i.toNat + 1) (by omega); simpa [sumTo] using this
      have t1 := hnl i.toNat (by omega)
      have t2 := hsl i.toNat (by omega)
      repeat' first
        | refine W1.iaRow rfl rfl hs.up q0 hlt (fun bb oo hrd => ?_)
        | refine W1.ldE hag rfl (hs.2.2 i.toNat hi) hrd ?_
        | (refine W1.callV rfl rfl (WV.func ((r5 b _ _ _ hM2 (by simp only [List.length_append, List.length_cons, lim40]; omega) (by simp only [List.length_append, lim40]; omega)).mono fun v M3 hM3 => ?_)))
        | refine WC.region ?_
        | refine WO.nil ?_
        | refine WO.cons ?_
        | refine W1.mv rfl ?_
        | refine W1.add rfl rfl (by omega) (by omega) ?_
      refine ⟨i + 1, by omega, by repeat (first | exact subL.nil _ | refine subL.cons rfl ?_), by omega, by omega, ?_⟩
      have e1 : (i + 1).toNat = i.toNat + 1 := by omega
      rw [e1]
      simpa [catTo, nf, sf] using hM3
    · have hge := of_decide_eq_false hc
      have e1 : i.toNat = n := by omega
      rw [e1] at hM2
      exact hM2
  refine WF.permM hp (WF.intro hf (Nat.le_of_ble_eq_true rfl) ?_ ho)
  rcases l1 with ⟨rfl, rfl, rfl⟩ | ⟨bn, rfl, rfl⟩
  · repeat' first
      | refine main _ _ ?_ ?_ _ rfl
      | refine W1.lenSlc rfl hs.up.1 ?_
      | refine W1.appN (n := 1) rfl rfl (Src.row .here (Nat.le_of_ble_eq_true rfl)) (by decide) (by decide) (fun b' => ?_)
      | refine W1.st rfl rfl rfl rfl (.there (.there .here)) (Nat.le_of_ble_eq_true rfl) ?_
      | refine WC.seq ?_
      | refine WC.block ?_
      | refine WC.region ?_
      | refine WO.nil ?_
      | refine WO.cons ?_
      | refine W1.mv rfl ?_
      | refine W1.nilck rfl ?_
      | refine W1.fa rfl ?_
      | refine W1.bldS rfl rfl rfl (fun bb => ?_)
      | refine W1.ldS rfl .here rfl ?_
    · repeat (first | exact subL.nil _ | refine subL.cons rfl ?_)
    · exact hmid _ _ _ rfl
  · repeat' first
      | refine main _ _ ?_ ?_ _ rfl
      | refine W1.lenSlc rfl hs.up.1 ?_
      | refine W1.app (n := 1) rfl rfl (Src.row .here (Nat.le_of_ble_eq_true rfl)) (by decide) (.there (.there .here)) (by simp) (by show (cn.length + 1) * 8 ≤ 35184372088832; omega) (fun b' => ?_)
      | refine W1.st rfl rfl rfl rfl (.there (.there .here)) (Nat.le_of_ble_eq_true rfl) ?_
      | refine WC.seq ?_
      | refine WC.block ?_
      | refine WC.region ?_
      | refine WO.nil ?_
      | refine WO.cons ?_
      | refine W1.mv rfl ?_
      | refine W1.nilck rfl ?_
      | refine W1.fa rfl ?_
      | refine W1.bldS rfl rfl rfl (fun bb => ?_)
      | refine W1.ldS rfl .here rfl ?_
    · repeat (first | exact subL.nil _ | refine subL.cons rfl ?_)
    · exact hmid _ _ _ rfl
theorem PutA.le {f : Nat} {rest : List V} {B B' : Nat} (h : PutA ft g f rest B) (hb : B ≤ B') : PutA ft g f rest B' := by
  obtain ⟨ns, ss, h1, h2, h3, h4, h5⟩ := h
  exact ⟨ns, ss, by omega, by omega, h3, h4, fun b cn cs M hM l1 l2 => h5 b cn cs M hM (by omega) (by omega)⟩
theorem putL_ok {f p fe : Nat} (hf : ft.fn f = some (putLIr p fe)) (ho : ∀ a hp, ft.orc f a hp = none) {v : V} {B : Nat} (h : PutA ft g p [v, .func fe [] []] B) : PutA ft g f [v] B := by
  obtain ⟨ns, ss, h1, h2, h3, h4, h5⟩ := h
  refine ⟨ns, ss, h1, h2, h3, h4, fun b cn cs M hM l1 l2 => ?_⟩
  refine WF.intro hf (Nat.le_of_ble_eq_true rfl) ?_ ho
  repeat' first
    | (refine W1.callV rfl rfl (WV.func ((h5 b _ _ _ hM l1 l2).mono fun v M3 hM3 => ?_)))
    | refine WC.region ?_
    | refine WO.nil ?_
    | refine WO.cons ?_
    | refine W1.mv rfl ?_
    | refine Exists.intro _ (And.intro Res.nil ?_)
  assumption
theorem WF.monoP {f : Nat} {args : List V} {M : Mem} {K K' : V → Mem → Prop} (h : WF ft g f args M K) (hk : ∀ v M', K v M' → ∃ M2, K' v M2 ∧ M'.Perm M2) : WF ft g f args M K' :=
  WF.trim (h.mono fun v M' hK => by obtain ⟨M2, h1, h2⟩ := hk v M' hK; exact ⟨M2, [], by simpa using h2, h1⟩)
theorem putT_int {f : Nat} (hf : ft.fn f = some putNIr) (ho : ∀ a hp, ft.orc f a hp = none) : PutT ft f .int := by
  intro g v k hv
  simp only [Cell] at hv
  obtain ⟨⟨n, rfl⟩, hk⟩ := hv
  exact (put_int hf ho n).le hk
theorem putT_str {f : Nat} (hf : ft.fn f = some putSIr) (ho : ∀ a hp, ft.orc f a hp = none) : PutT ft f .str := by
  intro g v k hv
  simp only [Cell] at hv
  obtain ⟨s, rfl, hk⟩ := hv
  exact (put_str hf ho s).le (by omega)
theorem PutA.vac {f : Nat} {rest : List V} {B : Nat} (h : B ≤ 1099511627776 → PutA ft g f rest B) : PutA ft g f rest B := by
  by_cases hb : B ≤ 1099511627776
  · exact h hb
  · exact ⟨[], [], by simp, by simp, by simp [IntL], by simp [StrL], fun b cn cs M _ l1 _ => by simp only [lim40] at l1; omega⟩
theorem putT_list1 {f p fe : Nat} {t : Ty} (hf : ft.fn f = some (putLIr p fe)) (ho : ∀ a hp, ft.orc f a hp = none) (hp : ft.fn p = some (putsIr 1 false)) (hop : ∀ a hp, ft.orc p a hp = none) (he : PutT ft fe t) : PutT ft f (.sl [t]) := by
  intro g v k hv
  simp only [Cell] at hv
  obtain ⟨n, rows, kf, h1, h2, h3, h4, h5⟩ := hv
  refine PutA.vac fun hk => putL_ok hf ho (PutA.le (B := 1 + sumTo kf n) (puts_ok hp hop h1 (Or.inr ⟨rfl, rfl⟩) (by omega) fun i hi => ?_) (by omega))
  have := h5 i hi
  simp only [Ax.Row] at this
  obtain ⟨v, vs, k1, k2, e1, h6, h7, h8⟩ := this
  rw [e1]
  exact (he g v k1 h6).le (by omega)
theorem PutA.call {f : Nat} {rest : List V} {B : Nat} (h : PutA ft g f rest B) : ∃ ns ss : List V, ns.length ≤ B ∧ ss.length ≤ B ∧ IntL ns ∧ StrL ss ∧
    ∀ b cn cs M R, HpM b cn cs M → cn.length + B ≤ lim40 → cs.length + B ≤ lim40 → WF ft g f (.ptr b 0 :: rest) (R ++ M) fun _ M' => ∃ M1, M' = R ++ M1 ∧ HpM b (cn ++ ns) (cs ++ ss) M1 := by
  obtain ⟨ns, ss, h1, h2, h3, h4, h5⟩ := h
  refine ⟨ns, ss, h1, h2, h3, h4, fun b cn cs M R hM l1 l2 => ?_⟩
  refine WF.permM (List.perm_append_comm) ?_
  refine WF.monoP ((h5 b cn cs M hM l1 l2).frame (R := R) (List.Perm.refl _)) fun v M' ⟨M1, hM1, e⟩ => ⟨R ++ M1, ⟨M1, rfl, hM1⟩, ?_⟩
  subst e
  exact List.perm_append_comm
end
end Go.Ax
end
section
set_option linter.unusedSectionVars false
namespace Go.Ax
variable [Globs]
structure PItem where
  ag : Bool
  sz : Nat
  fn : Nat
def putGroup (hs bx d off : Nat) (i : PItem) : List IOper :=
  [⟨some d, .mv (.t hs), none⟩, ⟨some (d + 1), .fa (.t bx) off, none⟩, ⟨some (d + 2), .ld i.ag i.sz (.t (d + 1)), none⟩, ⟨some (d + 3), .call (.c (.func i.fn [] [])) [.t d, .t (d + 2)], none⟩]
def putChain (hs bx : Nat) : Nat → Nat → List PItem → ICode
  | _, _, [] => .skip
  | d, off, [i] => .region (putGroup hs bx d off i)
  | d, off, i :: r => .seq (.region (putGroup hs bx d off i)) (putChain hs bx (d + 4) (off + i.sz) r)
def putGIr (hs xs bx : Nat) (is : List PItem) : IFun := ⟨4 + 4 * is.length, .seq (.region [⟨some bx, .box (.t xs), none⟩]) (putChain hs bx 4 0 is), []⟩
theorem lk_ne {L : Env} {d s : Nat} {v : V} (h : d ≠ s) : lk ((d, v) :: L) s = lk L s := by
  have : Nat.beq d s = false := by
    cases e : Nat.beq d s with
    | false => rfl
    | true => exact absurd (Nat.eq_of_beq_eq_true e) h
  simp [lk, this]
theorem lk_eq {L : Env} {d : Nat} {v : V} : lk ((d, v) :: L) d = some v := by simp [lk]
inductive ItemsOk (ft : FT FnR) : List PItem → List Ty → Prop
  | nil : ItemsOk ft [] []
  | one {f : Nat} {t : Ty} {is : List PItem} {ts : List Ty} (h : PutT ft f t) (r : ItemsOk ft is ts) : ItemsOk ft (⟨false, 1, f⟩ :: is) (t :: ts)
  | many {f n : Nat} {us : List Ty} {is : List PItem} {ts : List Ty} (hn : us.length = n) (h : PutR ft f us) (r : ItemsOk ft is ts) : ItemsOk ft (⟨true, n, f⟩ :: is) (us ++ ts)
theorem Row.split {g : Gz} : ∀ {us ts : List Ty} {vs : List V} {k : Nat}, Row g (us ++ ts) vs k → ∃ v1 v2 k1 k2, vs = v1 ++ v2 ∧ Row g us v1 k1 ∧ Row g ts v2 k2 ∧ k1 + k2 ≤ k
  | [], ts, vs, k, h => ⟨[], vs, 0, k, rfl, by simp [Row], h, by omega⟩
  | u :: us, ts, vs, k, h => by
    simp only [List.cons_append, Row] at h
    obtain ⟨v, vs', k1, k2, rfl, h1, h2, h3⟩ := h
    obtain ⟨a, b, p, q, rfl, h4, h5, h6⟩ := Row.split h2
    exact ⟨v :: a, b, k1 + p, q, rfl, by simp only [Row]; exact ⟨v, a, k1, p, rfl, h1, h4, Nat.le_refl _⟩, h5, by omega⟩
section
variable {ft : FT FnR} {g : Gz}
attribute [local irreducible] W1 WO WC WD WF WV
theorem grp_ok {hs bx : Nat} (hne : bx < 4) (hh : hs < 4) {it : PItem} {pre v1 vs' : List V} {val : V} (hval : (it.ag = false ∧ v1 = [val]) ∨ (it.ag = true ∧ val = .agg v1 ∧ v1.length = it.sz)) {ns ss : List V} {k : Nat} {b bb d : Nat} {cn cs : List V} {M : Mem} {L : Env}
    (hp : ∀ b cn cs M R, HpM b cn cs M → cn.length + k ≤ lim40 → cs.length + k ≤ lim40 → WF ft g it.fn [.ptr b 0, val] (R ++ M) fun _ M' => ∃ M1, M' = R ++ M1 ∧ HpM b (cn ++ ns) (cs ++ ss) M1) (hd : 4 ≤ d) (l1 : lk L hs = some (.ptr b 0)) (l2 : lk L bx = some (.ptr bb 0))
    (hM : HpM b cn cs M) (q1 : cn.length + k ≤ lim40) (q2 : cs.length + k ≤ lim40) (K' : Env → Mem → Prop) (hK' : ∀ L' M', lk L' hs = some (.ptr b 0) → lk L' bx = some (.ptr bb 0) → HpM b (cn ++ ns) (cs ++ ss) M' → K' L' ((bb, Arr1 (pre ++ (v1 ++ vs')) {}) :: M')) :
    WO ft g (putGroup hs bx d pre.length it) L ((bb, Arr1 (pre ++ (v1 ++ vs')) {}) :: M) K' := by
  obtain ⟨ag, sz, fn⟩ := it
  unfold putGroup
  refine WO.cons (W1.mv l1 (WO.cons (W1.fa (b := bb) (o := 0) (by simp only [lkO]; rw [lk_ne (by omega)]; exact l2) (WO.cons ?_))))
  rw [Nat.zero_add]
  have rest : ∀ L0, lk L0 d = some (.ptr b 0) → lk L0 hs = some (.ptr b 0) → lk L0 bx = some (.ptr bb 0) → WO ft g [⟨some (d + 3), .call (.c (.func fn [] [])) [.t d, .t (d + 2)], none⟩] ((d + 2, val) :: L0) ((bb, Arr1 (pre ++ (v1 ++ vs')) {}) :: M) K' := by
    intro L0 z0 z1 z2
    refine WO.cons (W1.callV rfl (vs := [.ptr b 0, val]) (by simp only [lkOs, lkO]; rw [lk_ne (by omega), z0, lk_eq]) (WV.func ((hp b cn cs M [(bb, Arr1 (pre ++ (v1 ++ vs')) {})] hM q1 q2).mono fun u M' ⟨M1, e, hM1⟩ => WO.nil ?_)))
    subst e
    exact hK' _ _ (by simp only [putL]; rw [lk_ne (by omega), lk_ne (by omega)]; exact z1) (by simp only [putL]; rw [lk_ne (by omega), lk_ne (by omega)]; exact z2) hM1
  have z0 : lk ((d + 1, V.ptr bb pre.length) :: (d, .ptr b 0) :: L) d = some (.ptr b 0) := by rw [lk_ne (by omega), lk_eq]
  have z1 : lk ((d + 1, V.ptr bb pre.length) :: (d, .ptr b 0) :: L) hs = some (.ptr b 0) := by rw [lk_ne (by omega), lk_ne (by omega)]; exact l1
  have z2 : lk ((d + 1, V.ptr bb pre.length) :: (d, .ptr b 0) :: L) bx = some (.ptr bb 0) := by rw [lk_ne (by omega), lk_ne (by omega)]; exact l2
  rcases hval with ⟨e1, rfl⟩ | ⟨e1, rfl, e2⟩
  · simp only at e1; subst e1
    exact W1.ldS lk_eq .here (v := val) (by simp) (rest _ z0 z1 z2)
  · simp only at e1 e2; subst e1; subst e2
    have := W1.ldA (ft := ft) (g := g) (d := d + 2) (n := v1.length) (x := .t (d + 1)) (b := bb) (o := pre.length) (cs := pre ++ (v1 ++ vs')) (a := {}) (L := (d + 1, V.ptr bb pre.length) :: (d, .ptr b 0) :: L) (M := (bb, Arr1 (pre ++ (v1 ++ vs')) {}) :: M) (K := fun L' M' => WO ft g [⟨some (d + 3), .call (.c (.func fn [] [])) [.t d, .t (d + 2)], none⟩] L' M' K') lk_eq .here (by simp)
    refine this ?_
    have e3 : ((pre ++ (v1 ++ vs')).drop pre.length).take v1.length = v1 := by simp
    rw [e3]
    exact rest _ z0 z1 z2
theorem chain_ok {hs bx : Nat} (hne : bx < 4) (hh : hs < 4) : ∀ {is : List PItem} {ts : List Ty}, ItemsOk ft is ts → ∀ {vs : List V} {pre : List V} {k : Nat}, Ax.Row g ts vs k → ∃ ns ss : List V, ns.length ≤ k ∧ ss.length ≤ k ∧ IntL ns ∧ StrL ss ∧
    ∀ (b bb d : Nat) (cn cs : List V) (M : Mem) (L : Env) (K : X → Env → Mem → Prop), 4 ≤ d → lk L hs = some (.ptr b 0) → lk L bx = some (.ptr bb 0) → HpM b cn cs M → cn.length + k ≤ lim40 → cs.length + k ≤ lim40 →
      (∀ L' M', HpM b (cn ++ ns) (cs ++ ss) M' → K .normal L' ((bb, Arr1 (pre ++ vs) {}) :: M')) → WC ft g none (putChain hs bx d pre.length is) L ((bb, Arr1 (pre ++ vs) {}) :: M) K := by
  intro is ts hI
  have l40 : lim40 = 1099511627776 := rfl
  have step : ∀ {it : PItem} {is : List PItem} {ts : List Ty} {vs' pre v1 : List V} {val : V} {k1 k2 k : Nat}, ItemsOk ft is ts → PutA ft g it.fn [val] k1 → ((it.ag = false ∧ v1 = [val] ∧ it.sz = 1) ∨ (it.ag = true ∧ val = .agg v1 ∧ v1.length = it.sz)) → Ax.Row g ts vs' k2 → k1 + k2 ≤ k →
      (∀ {vs : List V} {pre : List V} {k : Nat}, Ax.Row g ts vs k → ∃ ns ss : List V, ns.length ≤ k ∧ ss.length ≤ k ∧ IntL ns ∧ StrL ss ∧
        ∀ (b bb d : Nat) (cn cs : List V) (M : Mem) (L : Env) (K : X → Env → Mem → Prop), 4 ≤ d → lk L hs = some (.ptr b 0) → lk L bx = some (.ptr bb 0) → HpM b cn cs M → cn.length + k ≤ lim40 → cs.length + k ≤ lim40 →
          (∀ L' M', HpM b (cn ++ ns) (cs ++ ss) M' → K .normal L' ((bb, Arr1 (pre ++ vs) {}) :: M')) → WC ft g none (putChain hs bx d pre.length is) L ((bb, Arr1 (pre ++ vs) {}) :: M) K) →
      ∃ ns ss : List V, ns.length ≤ k ∧ ss.length ≤ k ∧ IntL ns ∧ StrL ss ∧
        ∀ (b bb d : Nat) (cn cs : List V) (M : Mem) (L : Env) (K : X → Env → Mem → Prop), 4 ≤ d → lk L hs = some (.ptr b 0) → lk L bx = some (.ptr bb 0) → HpM b cn cs M → cn.length + k ≤ lim40 → cs.length + k ≤ lim40 →
          (∀ L' M', HpM b (cn ++ ns) (cs ++ ss) M' → K .normal L' ((bb, Arr1 (pre ++ (v1 ++ vs')) {}) :: M')) → WC ft g none (putChain hs bx d pre.length (it :: is)) L ((bb, Arr1 (pre ++ (v1 ++ vs')) {}) :: M) K := by
    intro it is ts vs' pre v1 val k1 k2 k hI h hval hr hk ih
    obtain ⟨ns1, ss1, a1, a2, a3, a4, a5⟩ := h.call
    have hval' : (it.ag = false ∧ v1 = [val]) ∨ (it.ag = true ∧ val = .agg v1 ∧ v1.length = it.sz) := by
      rcases hval with ⟨e1, e2, _⟩ | e
      · exact Or.inl ⟨e1, e2⟩
      · exact Or.inr e
    cases is with
    | nil =>
      cases hI
      simp only [Ax.Row] at hr; subst hr
      exact ⟨ns1, ss1, by omega, by omega, a3, a4, fun b bb d cn cs M L K hd l1 l2 hM q1 q2 hK =>
        WC.region (grp_ok hne hh hval' a5 hd l1 l2 hM (by omega) (by omega) _ fun L' M' _ _ hM' => hK L' M' hM')⟩
    | cons i is =>
      obtain ⟨ns2, ss2, b1, b2, b3, b4, b5⟩ := ih (pre := pre ++ v1) hr
      refine ⟨ns1 ++ ns2, ss1 ++ ss2, by simp only [List.length_append]; omega, by simp only [List.length_append]; omega, a3.app b3, a4.app b4, fun b bb d cn cs M L K hd l1 l2 hM q1 q2 hK => ?_⟩
      refine WC.seq (WC.region (grp_ok hne hh hval' a5 hd l1 l2 hM (by omega) (by omega) _ fun L' M' m1 m2 hM' => ?_))
      have e0 : pre ++ (v1 ++ vs') = (pre ++ v1) ++ vs' := by simp
      have e1 : (pre ++ v1).length = pre.length + it.sz := by
        rcases hval with ⟨_, rfl, e⟩ | ⟨_, _, e⟩
        · simp [e]
        · simp [e]
      rw [e0, ← e1]
      exact b5 b bb (d + 4) (cn ++ ns1) (cs ++ ss1) M' L' K (by omega) m1 m2 hM' (by simp only [List.length_append]; omega) (by simp only [List.length_append]; omega) (fun L'' M'' hM'' => by
        have := hK L'' M'' (by simpa using hM''); rw [e0] at this; exact this)
  induction hI with
  | nil =>
    intro vs pre k _
    exact ⟨[], [], by simp, by simp, by simp [IntL], by simp [StrL], fun b bb d cn cs M L K _ _ _ hM _ _ hK => WC.skip (hK L M (by simpa using hM))⟩
  | @one f t is ts h r ih =>
    intro vs pre k hrow
    simp only [Ax.Row] at hrow
    obtain ⟨v, vs', k1, k2, rfl, hv, hr, hk⟩ := hrow
    exact step (v1 := [v]) r (h g v k1 hv) (Or.inl ⟨rfl, rfl, rfl⟩) hr hk ih
  | @many f n us is ts hn h r ih =>
    intro vs pre k hrow
    obtain ⟨v1, v2, k1, k2, rfl, hv, hr, hk⟩ := hrow.split
    exact step r (h g v1 k1 hv) (Or.inr ⟨rfl, rfl, by rw [hv.length, hn]⟩) hr hk ih
theorem Row.cells {ts : List Ty} {vs : List V} {k : Nat} (h : Ax.Row g ts vs k) : (V.agg vs).cells.all V.scalar = true := List.all_eq_true.2 fun v hv => h.scalar v hv
theorem putG_ok {f : Nat} {is : List PItem} {ts : List Ty} (hf : ft.fn f = some (putGIr 0 1 3 is)) (ho : ∀ a hp, ft.orc f a hp = none) (hI : ItemsOk ft is ts) : PutR ft f ts := by
  intro g vs k hrow
  obtain ⟨ns, ss, a1, a2, a3, a4, a5⟩ := chain_ok (g := g) (hs := 0) (bx := 3) (by omega) (by omega) hI (pre := []) hrow
  refine ⟨ns, ss, a1, a2, a3, a4, fun b cn cs M hM q1 q2 => ?_⟩
  refine WF.trim (WF.intro hf (Nat.le_of_ble_eq_true (by show Nat.ble 2 (4 + 4 * is.length) = true; exact Nat.ble_eq_true_of_le (by omega))) ?_ ho)
  refine WC.seq (WC.region (WO.cons (W1.box rfl hrow.cells fun bb => WO.nil ?_)))
  refine a5 b bb 4 cn cs M _ _ (by omega) rfl rfl hM q1 q2 fun L' M' hM' => ?_
  exact ⟨_, Res.nil, M', [(bb, Arr1 ([] ++ vs) {})], List.Perm.refl _, hM'⟩
end
end Go.Ax
end
section
set_option linter.unusedSectionVars false
namespace Go.Ax
variable [Globs]
abbrev Bks := List (Nat × List V)
def toM (R : Bks) : Mem := R.map fun p => (p.1, Arr1 p.2 {})
theorem toM_app (R S : Bks) : toM (R ++ S) = toM R ++ toM S := by simp [toM]
def catA {α : Type} (f : Nat → List α) : Nat → List α
  | 0 => []
  | n + 1 => catA f n ++ f n
theorem catA_congr {α : Type} {f f' : Nat → List α} : ∀ (n : Nat), (∀ i, i < n → f i = f' i) → catA f n = catA f' n
  | 0, _ => rfl
  | n + 1, h => by simp only [catA]; rw [catA_congr n fun i hi => h i (by omega), h n (by omega)]
theorem catA_front {α : Type} {f : Nat → List α} : ∀ {n i : Nat}, i < n → (catA f n).Perm (f i ++ catA (fun j => if j = i then [] else f j) n)
  | n + 1, i, h => by
    by_cases hi : i = n
    · subst hi
      simp only [catA, if_true, List.append_nil]
      have e : catA (fun j => if j = i then [] else f j) i = catA f i := catA_congr i fun j hj => by rw [if_neg (by omega)]
      rw [e]
      exact List.perm_append_comm
    · have := catA_front (f := f) (n := n) (i := i) (by omega)
      simp only [catA]
      rw [if_neg (by omega), ← List.append_assoc]
      exact this.append_right _
mutual
def OwnC : Ty → V → Bks → Nat → Prop
  | .int, v, R, k => (∃ n, v = .int .i64 n) ∧ R = [] ∧ 1 ≤ k
  | .bool, v, R, k => (∃ t, v = .bool t) ∧ R = [] ∧ 1 ≤ k
  | .str, v, R, k => (∃ s : List UInt8, v = .str s ∧ s.length < k) ∧ R = [] ∧ 2 ≤ k
  | .sl row, v, R, k => ∃ (n : Nat) (cs : List V) (rows : Nat → List V) (Rs : Nat → Bks) (kf : Nat → Nat), (∀ i, i < n → OwnRow row (rows i) (Rs i) (kf i)) ∧ row.length ≠ 0 ∧ n ≤ 1099511627776 ∧ n < k ∧ sumTo kf n < k ∧
      ((v = .nilslice ∧ n = 0 ∧ R = []) ∨ ∃ (b o : Nat) (cap : Option Nat), v = .slice b o n cap row.length ∧ (∀ c, cap = some c → n ≤ c) ∧ (∀ i, i < n → ∀ j, j < row.length → cs[o + i * row.length + j]? = (rows i)[j]?) ∧ R = (b, cs) :: catA Rs n)
def OwnRow : List Ty → List V → Bks → Nat → Prop
  | [], vs, R, _ => vs = [] ∧ R = []
  | t :: ts, vs, R, k => ∃ v vs' R1 R2 k1 k2, vs = v :: vs' ∧ OwnC t v R1 k1 ∧ OwnRow ts vs' R2 k2 ∧ R = R1 ++ R2 ∧ k1 + k2 ≤ k
end
theorem OwnRow.length : ∀ {ts : List Ty} {vs : List V} {R : Bks} {k : Nat}, OwnRow ts vs R k → vs.length = ts.length
  | [], _, _, _, h => by simp only [OwnRow] at h; rw [h.1]; rfl
  | t :: ts, _, _, _, h => by
    simp only [OwnRow] at h
    obtain ⟨v, vs', R1, R2, k1, k2, rfl, _, h2, _⟩ := h
    simp [h2.length]
theorem OwnC.scalar : ∀ {t : Ty} {v : V} {R : Bks} {k : Nat}, OwnC t v R k → v.scalar = true
  | .int, _, _, _, h => by simp only [OwnC] at h; obtain ⟨⟨n, rfl⟩, _⟩ := h; rfl
  | .bool, _, _, _, h => by simp only [OwnC] at h; obtain ⟨⟨n, rfl⟩, _⟩ := h; rfl
  | .str, _, _, _, h => by simp only [OwnC] at h; obtain ⟨⟨s, rfl, _⟩, _⟩ := h; rfl
  | .sl row, _, _, _, h => by
    simp only [OwnC] at h
    obtain ⟨n, cs, rows, Rs, kf, _, _, _, _, _, h⟩ := h
    rcases h with ⟨rfl, _⟩ | ⟨b, o, cap, rfl, _⟩ <;> rfl
theorem mem_catA {α : Type} {f : Nat → List α} {x : α} : ∀ {n i : Nat}, i < n → x ∈ f i → x ∈ catA f n
  | n + 1, i, h, hx => by
    simp only [catA, List.mem_append]
    by_cases hi : i = n
    · subst hi; exact Or.inr hx
    · exact Or.inl (mem_catA (by omega) hx)
mutual
theorem OwnC.cell {g : Gz} : ∀ {t : Ty} {v : V} {R : Bks} {k : Nat}, OwnC t v R k → (∀ p ∈ R, g p.1 = some (.arr p.2 {})) → Cell g t v k
  | .int, _, _, _, h, _ => by simp only [OwnC] at h; simp only [Cell]; exact ⟨h.1, h.2.2⟩
  | .bool, _, _, _, h, _ => by simp only [OwnC] at h; simp only [Cell]; exact ⟨h.1, h.2.2⟩
  | .str, _, _, _, h, _ => by simp only [OwnC] at h; simp only [Cell]; exact h.1
  | .sl row, _, _, _, h, hg => by
    have hsc := OwnC.scalar h
    simp only [OwnC] at h
    obtain ⟨n, cs, rows, Rs, kf, h1, h2, _, h3, h4, h5⟩ := h
    simp only [Cell]
    have hlen : ∀ i, i < n → (rows i).length = row.length := fun i hi => (h1 i hi).length
    refine ⟨n, rows, kf, ⟨?_, h2, hlen⟩, hsc, h3, h4, fun i hi => (h1 i hi).row fun p hp => hg p ?_⟩
    · rcases h5 with ⟨rfl, rfl, _⟩ | ⟨b, o, cap, rfl, h6, h7, rfl⟩
      · exact Or.inl ⟨rfl, rfl⟩
      · refine Or.inr ⟨b, o, cap, rfl, h6, fun hp hs => ?_⟩
        obtain ⟨k1, k2⟩ := hs.fz b _ (hg (b, cs) (by simp))
        refine ⟨cs, {}, k1, k2, fun i hi j hj => ?_⟩
        rw [h7 i hi j hj]
        simp [List.getElem?_eq_getElem (show j < (rows i).length by rw [hlen i hi]; exact hj)]
    · rcases h5 with ⟨rfl, rfl, _⟩ | ⟨b, o, cap, rfl, h6, h7, rfl⟩
      · omega
      · exact List.mem_cons_of_mem _ (mem_catA hi hp)
theorem OwnRow.row {g : Gz} : ∀ {ts : List Ty} {vs : List V} {R : Bks} {k : Nat}, OwnRow ts vs R k → (∀ p ∈ R, g p.1 = some (.arr p.2 {})) → Row g ts vs k
  | [], _, _, _, h, _ => by simp only [OwnRow] at h; simp only [Row]; exact h.1
  | t :: ts, _, _, _, h, hg => by
    simp only [OwnRow] at h
    obtain ⟨v, vs', R1, R2, k1, k2, rfl, h1, h2, rfl, h3⟩ := h
    simp only [Row]
    exact ⟨v, vs', k1, k2, rfl, h1.cell fun p hp => hg p (by simp [hp]), h2.row fun p hp => hg p (by simp [hp]), h3⟩
end
section
variable {ft : FT FnR} {g : Gz}
theorem WF.freezeL {f : Nat} {args : List V} {M : Mem} : ∀ {R : Bks} {g : Gz} {K : V → Mem → Prop}, (∀ g', g.le g' → (∀ p ∈ R, g' p.1 = some (.arr p.2 {})) → WF ft g' f args M fun v M1 => K v (toM R ++ M1)) → WF ft g f args (toM R ++ M) K
  | [], g, K, h => h g (fun _ _ e => e) (by simp)
  | (b, cs) :: R, g, K, h => by
    refine WF.freeze (b := b) (cs := cs) (a := {}) (M' := toM R ++ M) At.here fun hb => ?_
    refine WF.freezeL (R := R) fun g' hg hR => ?_
    have hle : g.le g' := fun c o e => hg c o (Gz.le_add hb c o e)
    refine h g' hle fun p hp => ?_
    rcases List.mem_cons.1 hp with rfl | hp
    · exact hg _ _ (Gz.add_eq g b _)
    · exact hR p hp
theorem PutT.own {f : Nat} {t : Ty} (h : PutT ft f t) {v : V} {R : Bks} {k : Nat} (ho : OwnC t v R k) {b : Nat} {cn cs : List V} {Mh M : Mem} (hM : HpM b cn cs Mh) (q1 : cn.length + k ≤ lim40) (q2 : cs.length + k ≤ lim40) :
    WF ft g f [.ptr b 0, v] (toM R ++ (Mh ++ M)) fun _ M' => ∃ ns ss Mh', ns.length ≤ k ∧ ss.length ≤ k ∧ HpM b (cn ++ ns) (cs ++ ss) Mh' ∧ M' = toM R ++ (Mh' ++ M) := by
  refine WF.freezeL fun g' _ hR => ?_
  obtain ⟨ns, ss, h1, h2, _, _, h5⟩ := h g' v k (ho.cell hR)
  exact ((h5 b cn cs Mh hM q1 q2).frame (List.Perm.refl _)).mono fun u M' ⟨M1, hM1, e⟩ => ⟨ns, ss, M1, h1, h2, hM1, by rw [e]⟩
def WipeT (ft : FT FnR) (f : Nat) (t : Ty) : Prop := ∀ g b o cs v R k M, cs[o]? = some v → OwnC t v R k → WF ft g f [.ptr b o] ((b, Arr1 cs {}) :: (toM R ++ M)) fun _ M' => ∃ v' R' k', OwnC t v' R' k' ∧ M'.Perm ((b, Arr1 (splice cs o [v']) {}) :: (toM R' ++ M))
def WipeR (ft : FT FnR) (f : Nat) (ts : List Ty) : Prop := ∀ g b o cs vs R k M, (∀ j, j < ts.length → cs[o + j]? = vs[j]?) → OwnRow ts vs R k → WF ft g f [.ptr b o] ((b, Arr1 cs {}) :: (toM R ++ M)) fun _ M' => ∃ vs' R' k', OwnRow ts vs' R' k' ∧ M'.Perm ((b, Arr1 (splice cs o vs') {}) :: (toM R' ++ M))
theorem WipeT.row {f : Nat} {t : Ty} (h : WipeT ft f t) : WipeR ft f [t] := by
  intro g b o cs vs R k M hcs ho
  simp only [OwnRow] at ho
  obtain ⟨v, vs', R1, R2, k1, k2, rfl, h1, ⟨rfl, rfl⟩, rfl, h3⟩ := ho
  have := hcs 0 (by simp)
  simp only [List.append_nil]
  refine (h g b o cs v R1 k1 M (by simpa using this) h1).mono fun u M' ⟨v', R', k', h4, h5⟩ => ⟨[v'], R', k' + 0, ?_, h5⟩
  simp only [OwnRow]
  exact ⟨v', [], R', [], k', 0, rfl, h4, ⟨rfl, rfl⟩, by simp, by omega⟩
def wipeNIr (v : V) : IFun := ⟨4, (ICode.region [⟨(some 2), (.mv (.t 0)), none⟩,
    ⟨(some 3), (.nilck (.t 2)), none⟩,
    ⟨none, (.st 1 (.t 3) (.c v)), none⟩]), []⟩
def wipeLIr (p fe : Nat) : IFun := ⟨6, (ICode.region [⟨(some 2), (.mv (.t 0)), none⟩,
    ⟨(some 3), (.nilck (.t 2)), none⟩,
    ⟨(some 4), (.ld false 1 (.t 3)), none⟩,
    ⟨(some 5), (.call (.c (.func p [] [])) [(.t 4), (.c (.func fe [] []))]), none⟩]), []⟩
section
attribute [local irreducible] W1 WO WC WD WF WV
theorem wipe_const {f : Nat} {v' : V} (hf : ft.fn f = some (wipeNIr v')) (ho : ∀ a hp, ft.orc f a hp = none) (hsc : v'.scalar = true) {g : Gz} {b o : Nat} {cs : List V} {M : Mem} (hlt : o < cs.length) :
    WF ft g f [.ptr b o] ((b, Arr1 cs {}) :: M) fun _ M' => M' = (b, Arr1 (splice cs o [v']) {}) :: M := by
  have hcell : v'.cells = [v'] := by cases v' <;> first | rfl | cases hsc
  refine WF.intro hf (Nat.le_of_ble_eq_true rfl) ?_ ho
  repeat' first
    | refine W1.st rfl rfl (by rw [hcell]; rfl) (by rw [hcell]; simp [hsc]) .here (by omega) ?_
    | refine WC.region ?_
    | refine WO.nil ?_
    | refine WO.cons ?_
    | refine W1.mv rfl ?_
    | refine W1.nilck rfl ?_
    | refine Exists.intro _ (And.intro Res.nil ?_)
  rw [hcell]
theorem wipeT_int {f : Nat} {n : Int} (hf : ft.fn f = some (wipeNIr (.int .i64 n))) (ho : ∀ a hp, ft.orc f a hp = none) : WipeT ft f .int := by
  intro g b o cs v R k M hcs hv
  simp only [OwnC] at hv
  obtain ⟨⟨q, rfl⟩, rfl, hk⟩ := hv
  have hlt := (List.getElem?_eq_some_iff.1 hcs).1
  refine (wipe_const hf ho rfl hlt).mono fun u M' e => ⟨.int .i64 n, [], 1, by simp [OwnC], ?_⟩
  rw [e]
theorem splice_len {cs vs : List V} {o : Nat} (h : o + vs.length ≤ cs.length) : (splice cs o vs).length = cs.length := by
  simp [splice]; omega
theorem splice_get2 {cs vs : List V} {o : Nat} (h : o + vs.length ≤ cs.length) (i : Nat) : (splice cs o vs)[i]? = if i < o then cs[i]? else if i < o + vs.length then vs[i - o]? else cs[i]? := by
  simp only [splice]
  by_cases h1 : i < o
  · rw [if_pos h1, List.append_assoc, List.getElem?_append_left (by simp; omega), List.getElem?_take, if_pos h1]
  · rw [if_neg h1]
    by_cases h2 : i < o + vs.length
    · rw [if_pos h2, List.append_assoc, List.getElem?_append_right (by simp; omega), List.getElem?_append_left (by simp; omega)]
      congr 1; simp; omega
    · rw [if_neg h2, List.getElem?_append_right (by simp; omega), List.getElem?_drop]
      congr 1; simp; omega
structure WipeInv (row : List Ty) (n o : Nat) (L : Nat) (cs : List V) (Rs : Nat → Bks) : Prop where
  len : cs.length = L
  ex : ∃ (rows : Nat → List V) (kf : Nat → Nat), ∀ i, i < n → OwnRow row (rows i) (Rs i) (kf i) ∧ ∀ j, j < row.length → cs[o + i * row.length + j]? = (rows i)[j]?
theorem wipes_ok {f fe : Nat} {row : List Ty} (hf : ft.fn f = some (wipesIr row.length)) (ho : ∀ a hp, ft.orc f a hp = none) (hr0 : row.length ≠ 0) (he : WipeR ft fe row) {g : Gz} {b o n : Nat} {cap : Option Nat} {cs : List V} {Rs : Nat → Bks} {M : Mem} (hn : n ≤ 1099511627776) (hI : WipeInv row n o cs.length cs Rs) :
    WF ft g f [.slice b o n cap row.length, .func fe [] []] ((b, Arr1 cs {}) :: (toM (catA Rs n) ++ M)) fun _ M' => ∃ cs' Rs', WipeInv row n o cs.length cs' Rs' ∧ M'.Perm ((b, Arr1 cs' {}) :: (toM (catA Rs' n) ++ M)) := by
  refine WF.intro hf (Nat.le_of_ble_eq_true rfl) ?_ ho
  refine WC.seq (WC.region (WO.cons (W1.mv rfl (WO.nil ?_))))
  refine WC.block ?_
  refine WC.loopE (ι := Int) (fun i => (n - i).toNat) (fun i => [(0, .slice b o n cap row.length), (1, .func fe [] []), (4, .int .i64 i)])
    (fun i M' => 0 ≤ i ∧ i ≤ n ∧ ∃ cs' Rs', WipeInv row n o cs.length cs' Rs' ∧ M'.Perm ((b, Arr1 cs' {}) :: (toM (catA Rs' n) ++ M))) ?_ 0 _ _
    (by repeat (first | exact subL.nil _ | refine subL.cons rfl ?_)) ⟨by omega, by omega, cs, Rs, hI, List.Perm.refl _⟩
  rintro i M2 ⟨q0, q1, cs', Rs', hI', hp⟩
  by_cases hlt : i < (n : Int)
  · have hi : i.toNat < n := by omega
    obtain ⟨rows, kf, hrows⟩ := hI'.ex
    obtain ⟨r1, r2⟩ := hrows i.toNat hi
    have hp2 : M2.Perm ((b, Arr1 cs' {}) :: (toM (Rs' i.toNat) ++ (toM (catA (fun j => if j = i.toNat then [] else Rs' j) n) ++ M))) := by
      refine hp.trans (List.Perm.cons _ ?_)
      rw [← List.append_assoc, ← toM_app]
      exact ((catA_front hi).map _).append_right _
    have hdec : decide (i < (n : Int)) = true := decide_eq_true hlt
    refine WC.permM hp2 ?_
    refine WC.seq ?_
    repeat' first
      | refine W1.len rfl ?_
      | refine WC.cond_t rfl hdec ?_
      | refine W1.ia rfl rfl q0 hlt ?_
      | (refine W1.callV rfl rfl (WV.func ((he g b _ cs' _ _ _ _ r2 r1).mono fun v M3 hM3 => ?_)))
      | refine WC.seq ?_
      | refine WC.block ?_
      | refine WC.region ?_
      | refine WC.skip ?_
      | refine WO.nil ?_
      | refine WO.cons ?_
      | refine W1.mv rfl ?_
      | refine W1.lss rfl rfl ?_
      | refine W1.add rfl rfl (by omega) (by omega) ?_
    obtain ⟨vs', R', k', h1, h2⟩ := hM3
    have hl1 := h1.length
    have hlen : o + i.toNat * row.length + vs'.length ≤ cs'.length := by
      have hr1 := r1.length
      have h0 : (rows i.toNat)[row.length - 1]? = some _ := List.getElem?_eq_getElem (by omega)
      have := r2 (row.length - 1) (by omega)
      rw [h0] at this
      have := (List.getElem?_eq_some_iff.1 this).1
      omega
    refine ⟨i + 1, by omega, by repeat (first | exact subL.nil _ | refine subL.cons rfl ?_), by omega, by omega, splice cs' (o + i.toNat * row.length) vs', fun j => if j = i.toNat then R' else Rs' j, ⟨by rw [splice_len hlen]; exact hI'.len, fun j => if j = i.toNat then vs' else rows j, fun j => if j = i.toNat then k' else kf j, fun j hj => ?_⟩, ?_⟩
    · by_cases hji : j = i.toNat
      · subst hji
        simp only [if_true]
        refine ⟨h1, fun q hq => ?_⟩
        rw [splice_get2 hlen, if_neg (by omega), if_pos (by omega)]
        congr 1; omega
      · simp only [if_neg hji]
        obtain ⟨p1, p2⟩ := hrows j hj
        refine ⟨p1, fun q hq => ?_⟩
        rw [splice_get2 hlen]
        have : o + j * row.length + q < o + i.toNat * row.length ∨ o + i.toNat * row.length + vs'.length ≤ o + j * row.length + q := by
          rcases Nat.lt_or_gt_of_ne hji with h | h
          · have := Nat.mul_le_mul_right row.length (show j + 1 ≤ i.toNat by omega)
            rw [Nat.succ_mul] at this; left; omega
          · have := Nat.mul_le_mul_right row.length (show i.toNat + 1 ≤ j by omega)
            rw [Nat.succ_mul] at this; right; omega
        rcases this with h | h
        · rw [if_pos h]; exact p2 q hq
        · rw [if_neg (by omega), if_neg (by omega)]; exact p2 q hq
    · refine h2.trans (List.Perm.cons _ ?_)
      rw [← List.append_assoc, ← toM_app]
      refine ((List.Perm.map _ ?_).append_right _)
      refine List.Perm.trans ?_ (catA_front (f := fun j => if j = i.toNat then R' else Rs' j) hi).symm
      simp only [if_true]
      refine List.Perm.append_left _ ?_
      rw [catA_congr (f := fun j => if j = i.toNat then [] else Rs' j) (f' := fun j => if j = i.toNat then [] else (if j = i.toNat then R' else Rs' j)) n fun j _ => by by_cases h : j = i.toNat <;> simp [h]]
  · have hdec : decide (i < (n : Int)) = false := decide_eq_false hlt
    refine WC.seq ?_
    repeat' first
      | refine W1.len rfl ?_
      | refine WC.cond_f rfl hdec ?_
      | refine WC.seq ?_
      | refine WC.region ?_
      | refine WC.exit ?_
      | refine WO.nil ?_
      | refine WO.cons ?_
      | refine W1.mv rfl ?_
      | refine W1.lss rfl rfl ?_
      | refine Exists.intro _ (And.intro Res.nil ?_)
    exact ⟨cs', Rs', hI', hp⟩
theorem wipesN_ok {f fe e : Nat} (hf : ft.fn f = some (wipesIr e)) (ho : ∀ a hp, ft.orc f a hp = none) {M : Mem} {g : Gz} : WF ft g f [.nilslice, .func fe [] []] M fun _ M' => M' = M := by
  refine WF.intro hf (Nat.le_of_ble_eq_true rfl) ?_ ho
  refine WC.seq (WC.region (WO.cons (W1.mv rfl (WO.nil ?_))))
  refine WC.block ?_
  refine WC.loopE (ι := Nat) (fun i => 0) (fun i => [(0, .nilslice), (4, .int .i64 0)]) (fun i M' => M' = M) ?_ 0 _ _
    (by repeat (first | exact subL.nil _ | refine subL.cons rfl ?_)) rfl
  rintro i M2 rfl
  refine WC.seq ?_
  have hdec : decide ((0 : Int) < 0) = false := by decide
  repeat' first
    | refine W1.lenN rfl ?_
    | refine WC.cond_f rfl hdec ?_
    | refine WC.seq ?_
    | refine WC.region ?_
    | refine WC.exit ?_
    | refine WO.nil ?_
    | refine WO.cons ?_
    | refine W1.mv rfl ?_
    | refine W1.lss rfl rfl ?_
    | refine Exists.intro _ (And.intro Res.nil ?_)
  rfl
theorem wipeT_list {f p fe e : Nat} {row : List Ty} (hf : ft.fn f = some (wipeLIr p fe)) (ho : ∀ a hp, ft.orc f a hp = none) (hp : ft.fn p = some (wipesIr e)) (hop : ∀ a hp, ft.orc p a hp = none) (hlen : row.length = e) (he : WipeR ft fe row) : WipeT ft f (.sl row) := by
  intro g b o cs v R k M hcs hv
  subst hlen
  have hlt := (List.getElem?_eq_some_iff.1 hcs).1
  have hvo := hv
  simp only [OwnC] at hv
  obtain ⟨n, cs1, rows, Rs, kf, h1, h2, hn, h3, h4, h5⟩ := hv
  have same : ∀ (cs : List V) (o : Nat) (v : V), cs[o]? = some v → splice cs o [v] = cs := by
    intro cs o v h
    have hlt := (List.getElem?_eq_some_iff.1 h).1
    refine List.ext_getElem? fun i => ?_
    rw [splice_get2 (by simp; omega)]
    split
    · rfl
    · split
      · have : i = o := by simp at *; omega
        subst this; simp [h]
      · rfl
  rcases h5 with ⟨rfl, rfl, rfl⟩ | ⟨b1, o1, cap, rfl, h6, h7, rfl⟩
  · refine WF.intro hf (Nat.le_of_ble_eq_true rfl) ?_ ho
    repeat' first
      | refine W1.ldS rfl .here hcs ?_
      | (refine W1.callV rfl rfl (WV.func ((wipesN_ok hp hop).mono fun v M3 hM3 => ?_)))
      | refine WC.region ?_
      | refine WO.nil ?_
      | refine WO.cons ?_
      | refine W1.mv rfl ?_
      | refine W1.nilck rfl ?_
      | refine Exists.intro _ (And.intro Res.nil ?_)
    subst hM3
    exact ⟨.nilslice, [], k, hvo, by rw [same cs o _ hcs]⟩
  · have hI : WipeInv row n o1 cs1.length cs1 Rs := ⟨rfl, rows, kf, fun i hi => ⟨h1 i hi, h7 i hi⟩⟩
    have hperm : ((b, Arr1 cs {}) :: (toM ((b1, cs1) :: catA Rs n) ++ M)).Perm ((b1, Arr1 cs1 {}) :: (toM (catA Rs n) ++ ((b, Arr1 cs {}) :: M))) := by
      refine (List.Perm.swap _ _ _).trans (List.Perm.cons _ ?_)
      exact List.perm_middle.symm
    refine WF.intro hf (Nat.le_of_ble_eq_true rfl) ?_ ho
    repeat' first
      | refine W1.ldS rfl .here hcs ?_
      | (refine W1.callV rfl rfl (WV.func (WF.permM hperm ((wipes_ok hp hop h2 he hn hI).mono fun v M3 hM3 => ?_))))
      | refine WC.region ?_
      | refine WO.nil ?_
      | refine WO.cons ?_
      | refine W1.mv rfl ?_
      | refine W1.nilck rfl ?_
      | refine Exists.intro _ (And.intro Res.nil ?_)
    obtain ⟨cs', Rs', hI', hp'⟩ := hM3
    obtain ⟨rows', kf', hr'⟩ := hI'.ex
    refine ⟨.slice b1 o1 n cap row.length, (b1, cs') :: catA Rs' n, n + sumTo kf' n + 1, ?_, ?_⟩
    · simp only [OwnC]
      exact ⟨n, cs', rows', Rs', kf', fun i hi => (hr' i hi).1, h2, hn, by omega, by omega, Or.inr ⟨b1, o1, cap, rfl, h6, fun i hi => (hr' i hi).2, rfl⟩⟩
    · rw [same cs o _ hcs]
      refine hp'.trans ?_
      refine List.Perm.trans (List.Perm.cons _ List.perm_middle) ?_
      exact List.Perm.swap _ _ _
end
end
end Go.Ax
end
section
set_option linter.unusedSectionVars false
namespace Go.Ax
variable [Globs]
section
variable {ft : FT FnR} {g : Gz}
attribute [local irreducible] W1 WO WC WD WF WV
def wipeCIr (fn : Nat) : IFun := ⟨2, (ICode.region [⟨(some 1), (.call (.c (.func fn [] [])) [(.t 0)]), none⟩]), []⟩
theorem wipeC_ok {gf fn : Nat} {t : Ty} (hf : ft.fn gf = some (wipeCIr fn)) (ho : ∀ a hp, ft.orc gf a hp = none) (h : WipeT ft fn t) {b : Nat} {v : V} {R : Bks} {k : Nat} (hv : OwnC t v R k) : WF ft g gf [.ptr b 0] ((b, Arr1 [v] {}) :: toM R) fun _ _ => True := by
  refine WF.intro hf (Nat.le_of_ble_eq_true rfl) ?_ ho
  have e : toM R = toM R ++ [] := by simp
  rw [e]
  repeat' first
    | (refine W1.callV rfl rfl (WV.func ((h g b 0 [v] v R k [] rfl hv).mono fun v M3 hM3 => ?_)))
    | refine WC.region ?_
    | refine WO.nil ?_
    | refine WO.cons ?_
    | refine Exists.intro _ (And.intro Res.nil ?_)
  trivial
def nothingIr : IFun := ⟨0, ICode.skip, []⟩
theorem nothing_ok {gf : Nat} (hf : ft.fn gf = some nothingIr) (ho : ∀ a hp, ft.orc gf a hp = none) {M : Mem} : WF ft g gf [] M fun _ _ => True := by
  refine WF.intro hf (Nat.le_of_ble_eq_true rfl) ?_ ho
  exact WC.skip ⟨_, Res.nil, trivial⟩
section
variable {L : Env} {M : Mem} {K : Env → Mem → Prop}
theorem W1.put {Q Mh : Mem} {d : Option Nat} {f : Nat} {ops : List Opd} {rest : List V} {b k : Nat} {cn cs : List V} (ha : lkOs L ops = some (.ptr b 0 :: rest)) (h : PutA ft g f rest k) (hM : HpM b cn cs Mh) (q1 : cn.length + k ≤ lim40) (q2 : cs.length + k ≤ lim40)
    (hk : ∀ v ns ss Mh', ns.length ≤ k → ss.length ≤ k → HpM b (cn ++ ns) (cs ++ ss) Mh' → K (putL d v L) (Q ++ Mh')) : W1 ft g ⟨d, .call (.c (.func f [] [])) ops, none⟩ L (Q ++ Mh) K := by
  obtain ⟨ns, ss, h1, h2, _, _, h5⟩ := h.call
  refine W1.callV rfl ha (WV.func ?_)
  simp only [List.nil_append, List.append_nil]
  refine (h5 b cn cs Mh Q hM q1 q2).mono fun v M' ⟨M1, e, hM1⟩ => ?_
  subst e
  exact hk v ns ss M1 h1 h2 hM1
theorem W1.putO {pre Mh : Mem} {d : Option Nat} {f : Nat} {ops : List Opd} {t : Ty} {v : V} {R : Bks} {b k : Nat} {cn cs : List V} (ha : lkOs L ops = some [.ptr b 0, v]) (h : PutT ft f t) (hv : OwnC t v R k) (hM : HpM b cn cs Mh) (q1 : cn.length + k ≤ lim40) (q2 : cs.length + k ≤ lim40)
    (hk : ∀ v ns ss Mh', ns.length ≤ k → ss.length ≤ k → HpM b (cn ++ ns) (cs ++ ss) Mh' → K (putL d v L) (pre ++ (toM R ++ Mh'))) : W1 ft g ⟨d, .call (.c (.func f [] [])) ops, none⟩ L (pre ++ (toM R ++ Mh)) K := by
  refine W1.callV rfl ha (WV.func ?_)
  simp only [List.nil_append, List.append_nil]
  have hp : (pre ++ (toM R ++ Mh)).Perm (toM R ++ (Mh ++ pre)) := List.perm_append_comm.trans (by rw [List.append_assoc])
  refine WF.permM hp (WF.monoP (h.own hv hM q1 q2) fun u M' ⟨ns, ss, Mh', h1, h2, h3, e⟩ => ⟨pre ++ (toM R ++ Mh'), hk u ns ss Mh' h1 h2 h3, ?_⟩)
  rw [e, ← List.append_assoc]
  exact List.perm_append_comm
end
theorem agc_perm {x : Nat × BP} {A B : Mem} : (x :: (A ++ B)).Perm (B ++ (x :: A)) := by
  have := List.perm_append_comm (l₁ := x :: A) (l₂ := B)
  exact this
end
end Go.Ax
end
