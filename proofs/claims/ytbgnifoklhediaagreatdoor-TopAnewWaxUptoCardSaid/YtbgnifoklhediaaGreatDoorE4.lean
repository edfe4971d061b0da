import Derived.Test.YtbgnifoklhediaaGreatDoorE3
import Derived.Test.YtbgnifoklhediaaGreatDoorE2
import Derived.Test.YtbgnifoklhediaaGreatDoorA7
import Derived.Test.YtbgnifoklhediaaGreatDoorB
import Derived.Test.YtbgnifoklhediaaGreatDoorD
set_option linter.unusedSectionVars false
set_option linter.unusedVariables false
set_option linter.unusedSimpArgs false
section
namespace Go.Ax
open Go.Ax.Ir
theorem allLt {p : Nat → Prop} {i : Nat} (h : ∀ j, j < i → p j) (hi : p i) : ∀ j, j < i + 1 → p j := fun j hj => by
  by_cases e : j < i
  · exact h j e
  · obtain rfl : j = i := by omega
    exact hi
def nmBad (i : Nat) (c : Int) : Bool := (!(decide (97 ≤ c) && decide (c ≤ 122))) && (decide ((i : Int) = 0) || ((!decide (c = 46)) && (decide (c < 48) || decide (57 < c))))
def nmRun (s : List UInt8) : Nat → Nat → Bool
  | 0, _ => true
  | f + 1, i => if i < s.length then (if nmBad i (Utf8.decode ⟨s.toArray⟩ i).1 then false else nmRun s f (i + (Utf8.decode ⟨s.toArray⟩ i).2)) else true
def nmF (s : List UInt8) : Bool := nmRun s s.length 0 && ((!bytesEq s []) && decide ((s.length : Int) ≤ 16))
theorem nmRun_end {s : List UInt8} {f i : Nat} (h : s.length ≤ i) : nmRun s f i = true := by
  cases f with
  | zero => rfl
  | succ f => simp only [nmRun]; rw [if_neg (by omega)]
theorem nmRun_bad {s : List UInt8} {f i : Nat} (h : i < s.length) (hf : s.length - i ≤ f) (hb : nmBad i (Utf8.decode ⟨s.toArray⟩ i).1 = true) : nmRun s f i = false := by
  cases f with
  | zero => omega
  | succ f => simp only [nmRun]; rw [if_pos h, if_pos hb]
theorem nmRun_step {s : List UInt8} {f i : Nat} (h : i < s.length) (hf : s.length - i ≤ f) (hb : nmBad i (Utf8.decode ⟨s.toArray⟩ i).1 = false) : ∃ f', s.length - (i + (Utf8.decode ⟨s.toArray⟩ i).2) ≤ f' ∧ nmRun s f i = nmRun s f' (i + (Utf8.decode ⟨s.toArray⟩ i).2) := by
  have hp := decode_pos ⟨s.toArray⟩ i
  cases f with
  | zero => omega
  | succ f => exact ⟨f, by omega, by rw [nmRun, if_pos h, if_neg (by rw [hb]; decide)]⟩
theorem W1.nxtD {ft : FT FnR} {g : Gz} {L : Env} {M : Mem} {K : Env → Mem → Prop} {d : Nat} {x : Opd} {b pos : Nat} {s : List UInt8} {M2 : Nat → Mem} (hx : lkO L x = some (.ptr b 0)) (hu : ∀ w, Up M b (IterAt s pos) (IterAt s w) (M2 w))
    (h1 : pos < s.length → K ((d, .tup [.bool true, .int .i64 pos, .int .i32 (Utf8.decode ⟨s.toArray⟩ pos).1]) :: L) (M2 (pos + (Utf8.decode ⟨s.toArray⟩ pos).2))) (h2 : s.length ≤ pos → K ((d, .tup [.bool false]) :: L) M) : W1 ft g ⟨some d, .nxt x, none⟩ L M K := by
  refine W1.heavy rfl (fun f xs e => by cases e) fun τ hp hl hs => ?_
  obtain ⟨_, ⟨ob, e1, e2⟩, _⟩ := hs.mem _ (hu 0).mem
  have e3 : hp.get b = some (.iter s pos) := by rw [e1, show ob = .iter s pos from e2]
  by_cases hlt : pos < s.length
  · obtain ⟨s1, k1⟩ := hs.put (hu (pos + (Utf8.decode ⟨s.toArray⟩ pos).2)) (blk := .iter s (pos + (Utf8.decode ⟨s.toArray⟩ pos).2)) rfl
    refine ⟨.tup [.bool true, .int .i64 pos, .int .i32 (Utf8.decode ⟨s.toArray⟩ pos).1], _, _, ?_, s1, k1, h1 hlt⟩
    simp only [hvO, hl.opd hx, nxtF, e3, if_pos hlt]
  · exact ⟨.tup [.bool false], hp, M, by simp only [hvO, hl.opd hx, nxtF, e3, if_neg hlt], hs, Kp.refl _ _, h2 (by omega)⟩
attribute [local irreducible] W1 WO WC WD WF WV
set_option maxHeartbeats 4000000 in
theorem f41f {g : Gz} {s : List UInt8} : WF tbl g 41 [.str s] [] fun v M' => M' = [] ∧ v = .bool (nmF s) := by
  refine WF.intro rfl (Nat.le_of_ble_eq_true rfl) ?_
  refine WC.seq (WC.region (WO.cons (W1.mv rfl (WO.nil ?_))))
  refine WC.seq (WC.seq (WC.region (WO.cons (W1.mv rfl (WO.cons (W1.rng rfl fun b => WO.nil ?_))))))
  refine WC.block ?_
  refine WC.loopE (ι := Nat) (fun i => s.length - i) (fun _ => [(0, .str s), (7, .ptr b 0)]) (fun i M' => M' = [(b, IterAt s i)] ∧ ∃ f, s.length - i ≤ f ∧ nmRun s s.length 0 = nmRun s f i) ?_ 0 _ _
    (by repeat (first | exact subL.nil _ | refine subL.cons rfl ?_)) ⟨rfl, s.length, by omega, rfl⟩
  rintro i M' ⟨rfl, f, hf, hrun⟩
  repeat' first
    | refine WC.seq ?_
    | refine WC.block ?_
    | refine WC.region ?_
    | refine WC.skip ?_
    | refine WC.exit ?_
    | refine WC.drop (List.nil_sublist _) (WC.ret ?_)
    | refine WC.cond_t rfl (by first | assumption | rfl) ?_
    | refine WC.cond_f rfl (by first | assumption | rfl) ?_
    | refine WC.cond rfl (fun hc => ?_) (fun hc => ?_)
    | refine WO.nil ?_
    | refine WO.cons ?_
    | refine W1.mv rfl ?_
    | refine W1.nxtD rfl (fun w => .here) (fun hlt => ?_) (fun hge => ?_)
    | refine W1.ext rfl rfl ?_
    | refine W1.lss rfl rfl ?_
    | refine W1.gtr rfl rfl ?_
    | refine W1.leq rfl rfl ?_
    | refine W1.eql rfl rfl ?_
    | refine W1.neq rfl rfl ?_
    | refine W1.not rfl ?_
    | refine W1.lenS rfl ?_
    | refine W1.binStr rfl rfl rfl ?_
    | refine W1.guard_u rfl ?_
    | refine W1.guard_y rfl (by first | assumption | rfl) ?_
    | refine W1.guard_n rfl (by first | assumption | rfl) ?_
    | refine W1.guard rfl (fun hc => ?_) (fun hc => ?_)
    | refine W1.pick_t rfl (by first | assumption | rfl) rfl ?_
    | refine W1.pick_f rfl (by first | assumption | rfl) rfl ?_
    | refine Exists.intro _ (And.intro (Res.tmp rfl Res.nil) ?_)
  all_goals first
    | (refine ⟨rfl, ?_⟩
       have hb : nmBad i (Utf8.decode ⟨s.toArray⟩ i).1 = true := by simp_all [nmBad]
       have h0 : nmRun s s.length 0 = false := hrun.trans (nmRun_bad hlt hf hb)
       exact congrArg V.bool (show false = nmF s by simp [nmF, h0]))
    | (have hb : nmBad i (Utf8.decode ⟨s.toArray⟩ i).1 = false := by simp_all [nmBad]
       obtain ⟨f', hf', e⟩ := nmRun_step hlt hf hb
       have hp := decode_pos ⟨s.toArray⟩ i
       exact ⟨i + (Utf8.decode ⟨s.toArray⟩ i).2, by omega, by repeat (first | exact subL.nil _ | refine subL.cons rfl ?_), rfl, f', hf', hrun.trans e⟩)
    | (refine ⟨rfl, ?_⟩
       have h0 : nmRun s s.length 0 = true := hrun.trans (nmRun_end hge)
       first
         | exact congrArg V.bool (show decide ((s.length : Int) ≤ 16) = nmF s by simp only [nmF, h0, hc, Bool.true_and])
         | exact congrArg V.bool (show false = nmF s by simp [nmF, hc]))
theorem f70f {g : Gz} {n lo hi : Int} {bl bh : Nat} {M M1 M2 : Mem} (h1 : At M bl (Arr1 [.int .i64 lo] {}) M1) (h2 : At M bh (Arr1 [.int .i64 hi] {}) M2) :
    WF tbl g 70 [.int .i64 n, .ptr bl 0, .ptr bh 0] M fun v M' => M' = M ∧ v = .bool (decide (n < lo) || decide (hi < n)) := by
  refine WF.intro rfl (Nat.le_of_ble_eq_true rfl) ?_
  repeat' first
    | refine W1.ldS rfl h1 rfl ?_
    | refine W1.ldS rfl h2 rfl ?_
    | refine WC.ret ?_
    | refine WC.seq ?_
    | refine WC.region ?_
    | refine WO.nil ?_
    | refine WO.cons ?_
    | refine W1.guard_y rfl (by first | assumption | rfl) ?_
    | refine W1.guard_n rfl (by first | assumption | rfl) ?_
    | refine W1.guard rfl (fun hc => ?_) (fun hc => ?_)
    | refine W1.pick_t rfl (by first | assumption | rfl) rfl ?_
    | refine W1.pick_f rfl (by first | assumption | rfl) rfl ?_
    | refine W1.mv rfl ?_
    | refine W1.lss rfl rfl ?_
    | refine W1.gtr rfl rfl ?_
    | refine Exists.intro _ (And.intro (Res.tmp rfl Res.nil) ?_)
  all_goals refine ⟨rfl, congrArg V.bool ?_⟩
  all_goals simp_all
  all_goals (intro h; omega)
theorem f88f {g : Gz} {M : Mem} {s fv : V} {n : Nat} {el : Nat → Nat → V} {p : Nat → Bool} (hs : Slc g M s n 1 el) (hn : n ≤ 1000000000) (hf : ∀ i, i < n → WV tbl g fv [el i 0] M fun v M' => M' = M ∧ v = .bool (p i)) :
    WF tbl g 88 [s, fv] M fun v M' => M' = M ∧ ∃ k : Int, v = .int .i64 k ∧ (k < 0 ↔ ∀ i, i < n → p i = false) := by
  refine WF.intro rfl (Nat.le_of_ble_eq_true rfl) ?_
  repeat' first
    | refine W1.lenSlc rfl hs ?_
    | (refine WC.forR (blk := 0) (n := n) [0, 1, 7] (fun _ (_ : Unit) => []) (fun i _ M' => M' = M ∧ ∀ j, j < i → p j = false) () (by omega) rfl (fun _ _ => rfl) (fun _ _ => rfl) (fun _ _ => rfl) (fun _ _ => rfl) ⟨rfl, rfl⟩ (subL.nil _) ⟨rfl, fun j h => absurd h (Nat.not_lt_zero _)⟩ ?_ ?_ <;> first | rintro i u M' hi ⟨rfl, hp⟩ | rintro u M' ⟨rfl, hp⟩)
    | (refine W1.iaSlc rfl rfl hs (by omega) (by omega) (fun b o hrd => ?_))
    | refine W1.ldR rfl (hrd 0 (by omega)) ?_
    | (refine W1.callV rfl rfl ((hf i hi).mono fun v M' => ?_); rintro ⟨rfl, rfl⟩)
    | exact ⟨rfl, i, rfl, fun h => absurd h (by omega), fun h => by rw [h i hi] at hc; cases hc⟩
    | exact ⟨(), _, [], rfl, by repeat (first | exact subL.nil _ | refine subL.cons rfl ?_), List.Perm.refl _, rfl, allLt hp (hc)⟩
    | exact ⟨rfl, -1, rfl, fun _ => hp, fun _ => by decide⟩
    | refine WC.ret ?_
    | refine WC.seq ?_
    | refine WC.block ?_
    | refine WC.region ?_
    | refine WC.skip ?_
    | refine WC.cond rfl (fun hc => ?_) (fun hc => ?_)
    | refine WO.nil ?_
    | refine WO.cons ?_
    | refine W1.mv rfl ?_
    | refine Exists.intro _ (And.intro (Res.tmp rfl Res.nil) ?_)
theorem f69f {g : Gz} {M : Mem} {s fv : V} {n : Nat} {el : Nat → Nat → V} {p : Nat → Bool} (hs : Slc g M s n 1 el) (hn : n ≤ 1000000000) (hf : ∀ i, i < n → WV tbl g fv [el i 0] M fun v M' => M' = M ∧ v = .bool (p i)) :
    WF tbl g 69 [s, fv] M fun v M' => M' = M ∧ ∃ t, v = .bool t ∧ (t = false ↔ ∀ i, i < n → p i = false) := by
  refine WF.intro rfl (Nat.le_of_ble_eq_true rfl) ?_
  repeat' first
    | (refine W1.callV rfl rfl (WV.func ((f88f hs hn hf).mono fun v M' => ?_)); rintro ⟨rfl, k, rfl, hk⟩)
    | refine WC.ret ?_
    | refine WC.seq ?_
    | refine WC.region ?_
    | refine WO.nil ?_
    | refine WO.cons ?_
    | refine W1.mv rfl ?_
    | refine W1.geq rfl rfl ?_
    | refine Exists.intro _ (And.intro (Res.tmp rfl Res.nil) ?_)
  exact ⟨rfl, _, rfl, by rw [← hk]; simp⟩
theorem f38f {g : Gz} {M : Mem} {s : V} {n : Nat} {lo hi : Int} {num : Nat → Int} (hs : Slc g M s n 1 fun i _ => .int .i64 (num i)) (hn : n ≤ 1000000000) :
    WF tbl g 38 [.int .i64 lo, .int .i64 hi, s] M fun v M' => M' = M ∧ ∃ t, v = .bool t ∧ (t = false ↔ ∀ i, i < n → lo ≤ num i ∧ num i ≤ hi) := by
  refine WF.trimS (WF.intro rfl (Nat.le_of_ble_eq_true rfl) ?_)
  repeat' first
    | (refine W1.callV rfl rfl (WV.func ((f69f hs.cons.cons hn (p := fun i => decide (num i < lo) || decide (hi < num i)) (fun i hi => WV.func (f70f (.there .here) .here))).mono fun v M' => ?_)); rintro ⟨rfl, t, rfl, ht⟩)
    | refine WC.ret ?_
    | refine WC.seq ?_
    | refine WC.region ?_
    | refine WO.nil ?_
    | refine WO.cons ?_
    | refine W1.mv rfl ?_
    | refine W1.mkfn rfl rfl ?_
    | refine W1.box rfl rfl (fun bb => ?_)
    | refine Exists.intro _ (And.intro (Res.tmp rfl Res.nil) ?_)
  refine ⟨by repeat (first | exact Suf.refl | apply Suf.cons), t, rfl, ht.trans ⟨fun h i hi => ?_, fun h i hi => ?_⟩⟩
  · have := h i hi; simp at this; omega
  · have := h i hi; simp; omega
end Go.Ax
end
section
namespace Go.Ax
open Go.Ax.Ir
def nameOf : List V → List UInt8
  | .str nm :: _ => nm
  | _ => []
theorem f38Lf {g : Gz} {M M1 : Mem} {b o k : Nat} {lo hi : Int} {cs : List V} {a : BA} (h : At M b (Arr1 cs a) M1) (hk : ∀ i, i < k → ∃ q, cs[o + i]? = some (.int .i64 q)) (hk2 : k ≤ 1000) :
    WF tbl g 38 [.int .i64 lo, .int .i64 hi, .slice b o k (some k) 1] M fun v M' => M' = M ∧ ∃ t, v = .bool t ∧ (t = false ↔ ∀ i, i < k → ∀ q, cs[o + i]? = some (.int .i64 q) → lo ≤ q ∧ q ≤ hi) := by
  have hs : Slc g M (.slice b o k (some k) 1) k 1 fun i _ => .int .i64 (if h : i < k then (hk i h).choose else 0) :=
    Or.inr ⟨b, o, some k, rfl, fun c e => by cases e; exact Nat.le_refl _, fun hp hsat => by
      obtain ⟨h0, ⟨ob, h1, h2⟩, _⟩ := hsat.mem _ h.mem
      refine ⟨cs, a, h0, by rw [h1, show ob = .arr cs a from h2], fun i hi j hj => ?_⟩
      obtain rfl : j = 0 := by omega
      simp only [Nat.mul_one, Nat.add_zero]
      rw [dif_pos hi]; exact (hk i hi).choose_spec⟩
  refine (f38f hs (by omega)).mono ?_
  rintro v M' ⟨rfl, t, rfl, h3⟩
  refine ⟨rfl, t, rfl, h3.trans ⟨fun hh i hi q hq => ?_, fun hh i hi => ?_⟩⟩
  · have := hh i hi
    rw [dif_pos hi] at this
    have e2 := hq.symm.trans (hk i hi).choose_spec
    injection e2 with e2; injection e2 with _ e2
    rw [← e2] at this; exact this
  · rw [dif_pos hi]
    exact hh i hi _ (hk i hi).choose_spec
attribute [local irreducible] W1 WO WC WD WF WV
theorem f43f {g : Gz} {M M1 : Mem} {nm nm2 : List UInt8} {a b c d : Int} {k : Bool} {r : List V} {bp : Nat} (h : At M bp (Arr1 (.str nm2 :: r) {}) M1) :
    WF tbl g 43 [.agg [.str nm, .int .i64 a, .int .i64 b, .int .i64 c, .int .i64 d, .bool k], .ptr bp 0] M fun v M' => M' = M ∧ v = .bool (bytesEq nm nm2) := by
  refine WF.trimS (WF.intro rfl (Nat.le_of_ble_eq_true rfl) ?_)
  repeat' first
    | refine W1.binStr rfl rfl rfl ?_
    | refine WC.ret ?_
    | refine WC.seq ?_
    | refine WC.region ?_
    | refine WO.nil ?_
    | refine WO.cons ?_
    | refine W1.mv rfl ?_
    | refine W1.fa rfl ?_
    | refine W1.box rfl rfl (fun bb => ?_)
    | refine Exists.intro _ (And.intro (Res.tmp rfl Res.nil) ?_)
    | refine W1.ldS rfl .here rfl ?_
    | refine W1.ldS rfl (.there h) rfl ?_
  exact ⟨by repeat (first | exact Suf.refl | apply Suf.cons), rfl⟩
theorem f47f {g : Gz} {M M1 : Mem} {nm nm2 : List UInt8} {a b c d e : Int} {r : List V} {bp : Nat} (h : At M bp (Arr1 (.str nm2 :: r) {}) M1) :
    WF tbl g 47 [.agg [.str nm, .int .i64 a, .int .i64 b, .int .i64 c, .int .i64 d, .int .i64 e], .ptr bp 0] M fun v M' => M' = M ∧ v = .bool (bytesEq nm nm2) := by
  refine WF.trimS (WF.intro rfl (Nat.le_of_ble_eq_true rfl) ?_)
  repeat' first
    | refine W1.binStr rfl rfl rfl ?_
    | refine WC.ret ?_
    | refine WC.seq ?_
    | refine WC.region ?_
    | refine WO.nil ?_
    | refine WO.cons ?_
    | refine W1.mv rfl ?_
    | refine W1.fa rfl ?_
    | refine W1.box rfl rfl (fun bb => ?_)
    | refine Exists.intro _ (And.intro (Res.tmp rfl Res.nil) ?_)
    | refine W1.ldS rfl .here rfl ?_
    | refine W1.ldS rfl (.there h) rfl ?_
  exact ⟨by repeat (first | exact Suf.refl | apply Suf.cons), rfl⟩
theorem f71f {g : Gz} {M : Mem} {s fv : V} {n : Nat} {row : Nat → List V} {p : Nat → Bool} (hs : SlcR g M s n 6 row) (hn : n ≤ 1000000000) (hf : ∀ i, i < n → WV tbl g fv [.agg (row i)] M fun v M' => M' = M ∧ v = .bool (p i)) :
    WF tbl g 71 [s, fv] M fun v M' => M' = M ∧ ∃ k : Int, v = .int .i64 k ∧ (k < 0 ↔ ∀ i, i < n → p i = false) := by
  refine WF.intro rfl (Nat.le_of_ble_eq_true rfl) ?_
  repeat' first
    | refine W1.lenSlc rfl hs.1 ?_
    | (refine WC.forR (n := n) [0, 1, 6, 7] (fun _ (_ : Unit) => []) (fun i _ M' => M' = M ∧ ∀ j, j < i → p j = false) () (by omega) rfl (fun _ _ => rfl) (fun _ _ => rfl) (fun _ _ => rfl) (fun _ _ => rfl) ⟨rfl, rfl⟩ (subL.nil _) ⟨rfl, fun j h => absurd h (Nat.not_lt_zero _)⟩ ?_ ?_ <;> first | rintro i a M' hi ⟨rfl, hp⟩ | rintro a M' ⟨rfl, hp⟩)
    | refine W1.iaRow rfl rfl hs (by omega) (by omega) (fun b o hrd => ?_)
    | refine W1.ldV (vs := row i) rfl (hs.2.2 i hi) hrd ?_
    | (refine W1.callV rfl rfl ((hf i hi).mono fun v M' => ?_); rintro ⟨rfl, rfl⟩)
    | exact ⟨rfl, i, rfl, fun h => absurd h (by omega), fun h => by rw [h i hi] at hc; cases hc⟩
    | exact ⟨(), _, [], rfl, by repeat (first | exact subL.nil _ | refine subL.cons rfl ?_), List.Perm.refl _, rfl, allLt hp (hc)⟩
    | exact ⟨rfl, -1, rfl, fun _ => hp, fun _ => by decide⟩
    | refine WC.ret ?_
    | refine WC.seq ?_
    | refine WC.block ?_
    | refine WC.region ?_
    | refine WC.skip ?_
    | refine WC.cond rfl (fun hc => ?_) (fun hc => ?_)
    | refine WO.nil ?_
    | refine WO.cons ?_
    | refine W1.mv rfl ?_
    | refine Exists.intro _ (And.intro (Res.tmp rfl Res.nil) ?_)
theorem f42f {g : Gz} {M : Mem} {s fv : V} {n : Nat} {row : Nat → List V} {p : Nat → Bool} (hs : SlcR g M s n 6 row) (hn : n ≤ 1000000000) (hf : ∀ i, i < n → WV tbl g fv [.agg (row i)] M fun v M' => M' = M ∧ v = .bool (p i)) :
    WF tbl g 42 [s, fv] M fun v M' => M' = M ∧ ∃ t, v = .bool t ∧ (t = false ↔ ∀ i, i < n → p i = false) := by
  refine WF.intro rfl (Nat.le_of_ble_eq_true rfl) ?_
  repeat' first
    | (refine W1.callV rfl rfl (WV.func ((f71f hs hn hf).mono fun v M' => ?_)); rintro ⟨rfl, k, rfl, hk⟩)
    | refine WC.ret ?_
    | refine WC.seq ?_
    | refine WC.region ?_
    | refine WO.nil ?_
    | refine WO.cons ?_
    | refine W1.mv rfl ?_
    | refine W1.geq rfl rfl ?_
    | refine Exists.intro _ (And.intro (Res.tmp rfl Res.nil) ?_)
  exact ⟨rfl, _, rfl, by rw [← hk]; simp⟩
theorem f39f {g : Gz} {M : Mem} {s fv : V} {n : Nat} {row : Nat → List V} {P : Nat → Prop} (hs : SlcR g M s n 6 row) (hn : n ≤ 1000000000) (hsc : ∀ i, i < n → (row i).all V.scalar = true)
    (hf : ∀ i, i < n → WV tbl g fv [.int .i64 i, .agg (row i)] M fun v M' => M' = M ∧ ∃ e, v = .int .i64 e ∧ (e = 0 ↔ P i)) :
    WF tbl g 39 [s, fv] M fun v M' => M' = M ∧ ∃ a e, v = .tup [.int .i64 a, .int .i64 e] ∧ (e = 0 ↔ ∀ i, i < n → P i) := by
  refine WF.intro rfl (Nat.le_of_ble_eq_true rfl) ?_
  repeat' first
    | refine W1.lenSlc rfl hs.1 ?_
    | (refine WC.forR (n := n) [1, 9, 10] (fun _ (_ : Unit) => []) (fun i _ M' => M' = M ∧ ∀ j, j < i → P j) () (by omega) rfl (fun _ _ => rfl) (fun _ _ => rfl) (fun _ _ => rfl) (fun _ _ => rfl) ⟨rfl, rfl⟩ (subL.nil _) ⟨rfl, fun j h => absurd h (Nat.not_lt_zero _)⟩ ?_ ?_ <;> first | rintro i a M' hi ⟨rfl, hp⟩ | rintro a M' ⟨rfl, hp⟩)
    | refine W1.iaRow rfl rfl hs (by omega) (by omega) (fun b o hrd => ?_)
    | refine W1.ldV (vs := row i) rfl (hs.2.2 i hi) hrd ?_
    | refine W1.stAll rfl rfl (hs.2.2 i hi) rfl (hsc i hi) .here ?_
    | refine W1.ldAll rfl .here (hs.2.2 i hi) ?_
    | (refine W1.callV rfl rfl (WV.less (List.sublist_cons_self _ _) ((hf i hi).mono fun v M' => ?_)); rintro ⟨rfl, e, rfl, he⟩)
    | exact ⟨(), _, [], rfl, by repeat (first | exact subL.nil _ | refine subL.cons rfl ?_), List.Perm.refl _, rfl, allLt hp (he.1 (by simpa using hc))⟩
    | exact ⟨rfl, _, _, rfl, fun h => absurd h (by simpa using hc), fun h => absurd (he.2 (h i hi)) (by simpa using hc)⟩
    | exact ⟨rfl, _, _, rfl, fun _ => hp, fun _ => rfl⟩
    | refine WC.ret ?_
    | refine WC.seq ?_
    | refine WC.block ?_
    | refine WC.region ?_
    | refine WC.skip ?_
    | refine WC.cond rfl (fun hc => ?_) (fun hc => ?_)
    | refine WO.nil ?_
    | refine WO.cons ?_
    | refine W1.mv rfl ?_
    | refine W1.neq rfl rfl ?_
    | refine W1.alloc rfl (fun bb => ?_)
    | refine Exists.intro _ (And.intro (Res.tmp rfl (Res.tmp rfl Res.nil)) ?_)
theorem f72f {g : Gz} {M : Mem} {s fv : V} {n : Nat} {row : Nat → List V} {p : Nat → Bool} (hs : SlcR g M s n 6 row) (hn : n ≤ 1000000000) (hf : ∀ i, i < n → WV tbl g fv [.agg (row i)] M fun v M' => M' = M ∧ v = .bool (p i)) :
    WF tbl g 72 [s, fv] M fun v M' => M' = M ∧ ∃ k : Int, v = .int .i64 k ∧ (k < 0 ↔ ∀ i, i < n → p i = false) := by
  refine WF.intro rfl (Nat.le_of_ble_eq_true rfl) ?_
  repeat' first
    | refine W1.lenSlc rfl hs.1 ?_
    | (refine WC.forR (n := n) [0, 1, 6, 7] (fun _ (_ : Unit) => []) (fun i _ M' => M' = M ∧ ∀ j, j < i → p j = false) () (by omega) rfl (fun _ _ => rfl) (fun _ _ => rfl) (fun _ _ => rfl) (fun _ _ => rfl) ⟨rfl, rfl⟩ (subL.nil _) ⟨rfl, fun j h => absurd h (Nat.not_lt_zero _)⟩ ?_ ?_ <;> first | rintro i a M' hi ⟨rfl, hp⟩ | rintro a M' ⟨rfl, hp⟩)
    | refine W1.iaRow rfl rfl hs (by omega) (by omega) (fun b o hrd => ?_)
    | refine W1.ldV (vs := row i) rfl (hs.2.2 i hi) hrd ?_
    | (refine W1.callV rfl rfl ((hf i hi).mono fun v M' => ?_); rintro ⟨rfl, rfl⟩)
    | exact ⟨rfl, i, rfl, fun h => absurd h (by omega), fun h => by rw [h i hi] at hc; cases hc⟩
    | exact ⟨(), _, [], rfl, by repeat (first | exact subL.nil _ | refine subL.cons rfl ?_), List.Perm.refl _, rfl, allLt hp (hc)⟩
    | exact ⟨rfl, -1, rfl, fun _ => hp, fun _ => by decide⟩
    | refine WC.ret ?_
    | refine WC.seq ?_
    | refine WC.block ?_
    | refine WC.region ?_
    | refine WC.skip ?_
    | refine WC.cond rfl (fun hc => ?_) (fun hc => ?_)
    | refine WO.nil ?_
    | refine WO.cons ?_
    | refine W1.mv rfl ?_
    | refine Exists.intro _ (And.intro (Res.tmp rfl Res.nil) ?_)
theorem f46f {g : Gz} {M : Mem} {s fv : V} {n : Nat} {row : Nat → List V} {p : Nat → Bool} (hs : SlcR g M s n 6 row) (hn : n ≤ 1000000000) (hf : ∀ i, i < n → WV tbl g fv [.agg (row i)] M fun v M' => M' = M ∧ v = .bool (p i)) :
    WF tbl g 46 [s, fv] M fun v M' => M' = M ∧ ∃ t, v = .bool t ∧ (t = false ↔ ∀ i, i < n → p i = false) := by
  refine WF.intro rfl (Nat.le_of_ble_eq_true rfl) ?_
  repeat' first
    | (refine W1.callV rfl rfl (WV.func ((f72f hs hn hf).mono fun v M' => ?_)); rintro ⟨rfl, k, rfl, hk⟩)
    | refine WC.ret ?_
    | refine WC.seq ?_
    | refine WC.region ?_
    | refine WO.nil ?_
    | refine WO.cons ?_
    | refine W1.mv rfl ?_
    | refine W1.geq rfl rfl ?_
    | refine Exists.intro _ (And.intro (Res.tmp rfl Res.nil) ?_)
  exact ⟨rfl, _, rfl, by rw [← hk]; simp⟩
theorem f44f {g : Gz} {M : Mem} {s fv : V} {n : Nat} {row : Nat → List V} {P : Nat → Prop} (hs : SlcR g M s n 6 row) (hn : n ≤ 1000000000) (hsc : ∀ i, i < n → (row i).all V.scalar = true)
    (hf : ∀ i, i < n → WV tbl g fv [.int .i64 i, .agg (row i)] M fun v M' => M' = M ∧ ∃ e, v = .int .i64 e ∧ (e = 0 ↔ P i)) :
    WF tbl g 44 [s, fv] M fun v M' => M' = M ∧ ∃ a e, v = .tup [.int .i64 a, .int .i64 e] ∧ (e = 0 ↔ ∀ i, i < n → P i) := by
  refine WF.intro rfl (Nat.le_of_ble_eq_true rfl) ?_
  repeat' first
    | refine W1.lenSlc rfl hs.1 ?_
    | (refine WC.forR (n := n) [1, 9, 10] (fun _ (_ : Unit) => []) (fun i _ M' => M' = M ∧ ∀ j, j < i → P j) () (by omega) rfl (fun _ _ => rfl) (fun _ _ => rfl) (fun _ _ => rfl) (fun _ _ => rfl) ⟨rfl, rfl⟩ (subL.nil _) ⟨rfl, fun j h => absurd h (Nat.not_lt_zero _)⟩ ?_ ?_ <;> first | rintro i a M' hi ⟨rfl, hp⟩ | rintro a M' ⟨rfl, hp⟩)
    | refine W1.iaRow rfl rfl hs (by omega) (by omega) (fun b o hrd => ?_)
    | refine W1.ldV (vs := row i) rfl (hs.2.2 i hi) hrd ?_
    | refine W1.stAll rfl rfl (hs.2.2 i hi) rfl (hsc i hi) .here ?_
    | refine W1.ldAll rfl .here (hs.2.2 i hi) ?_
    | (refine W1.callV rfl rfl (WV.less (List.sublist_cons_self _ _) ((hf i hi).mono fun v M' => ?_)); rintro ⟨rfl, e, rfl, he⟩)
    | exact ⟨(), _, [], rfl, by repeat (first | exact subL.nil _ | refine subL.cons rfl ?_), List.Perm.refl _, rfl, allLt hp (he.1 (by simpa using hc))⟩
    | exact ⟨rfl, _, _, rfl, fun h => absurd h (by simpa using hc), fun h => absurd (he.2 (h i hi)) (by simpa using hc)⟩
    | exact ⟨rfl, _, _, rfl, fun _ => hp, fun _ => rfl⟩
    | refine WC.ret ?_
    | refine WC.seq ?_
    | refine WC.block ?_
    | refine WC.region ?_
    | refine WC.skip ?_
    | refine WC.cond rfl (fun hc => ?_) (fun hc => ?_)
    | refine WO.nil ?_
    | refine WO.cons ?_
    | refine W1.mv rfl ?_
    | refine W1.neq rfl rfl ?_
    | refine W1.alloc rfl (fun bb => ?_)
    | refine Exists.intro _ (And.intro (Res.tmp rfl (Res.tmp rfl Res.nil)) ?_)
theorem one1 {lo hi : Int} (d : Int) : (∀ i, i < 1 → ∀ q, (splice (rep 1 [V.int .i64 0]) 0 (V.int .i64 d).cells)[0 + i]? = some (.int .i64 q) → lo ≤ q ∧ q ≤ hi) ↔ lo ≤ d ∧ d ≤ hi :=
  ⟨fun h => h 0 (by decide) d rfl, fun h => lt1 fun q hq => by
    have e : some (V.int .i64 d) = some (V.int .i64 q) := hq
    injection e with e; injection e with _ e; subst e; exact h⟩
theorem three3 {lo hi : Int} (a b c : Int) (r : List V) : (∀ i, i < 3 → ∀ q, (V.int .i64 a :: .int .i64 b :: .int .i64 c :: r)[0 + i]? = some (.int .i64 q) → lo ≤ q ∧ q ≤ hi) ↔ (lo ≤ a ∧ a ≤ hi) ∧ (lo ≤ b ∧ b ≤ hi) ∧ (lo ≤ c ∧ c ≤ hi) :=
  ⟨fun h => ⟨h 0 (by decide) a rfl, h 1 (by decide) b rfl, h 2 (by decide) c rfl⟩, fun h => lt3 (fun q hq => by
    have e : some (V.int .i64 a) = some (V.int .i64 q) := hq
    injection e with e; injection e with _ e; subst e; exact h.1) (fun q hq => by
    have e : some (V.int .i64 b) = some (V.int .i64 q) := hq
    injection e with e; injection e with _ e; subst e; exact h.2.1) (fun q hq => by
    have e : some (V.int .i64 c) = some (V.int .i64 q) := hq
    injection e with e; injection e with _ e; subst e; exact h.2.2)⟩
theorem four4 {lo hi : Int} (a b c d : Int) : (∀ i, i < 4 → ∀ q, (splice (splice (splice (splice (rep 4 [V.int .i64 0]) 0 (V.int .i64 a).cells) 1 (V.int .i64 b).cells) 2 (V.int .i64 c).cells) 3 (V.int .i64 d).cells)[0 + i]? = some (.int .i64 q) → lo ≤ q ∧ q ≤ hi) ↔ (lo ≤ a ∧ a ≤ hi) ∧ (lo ≤ b ∧ b ≤ hi) ∧ (lo ≤ c ∧ c ≤ hi) ∧ (lo ≤ d ∧ d ≤ hi) :=
  ⟨fun h => ⟨h 0 (by decide) a rfl, h 1 (by decide) b rfl, h 2 (by decide) c rfl, h 3 (by decide) d rfl⟩, fun h => lt4 (fun q hq => by
    have e : some (V.int .i64 a) = some (V.int .i64 q) := hq
    injection e with e; injection e with _ e; subst e; exact h.1) (fun q hq => by
    have e : some (V.int .i64 b) = some (V.int .i64 q) := hq
    injection e with e; injection e with _ e; subst e; exact h.2.1) (fun q hq => by
    have e : some (V.int .i64 c) = some (V.int .i64 q) := hq
    injection e with e; injection e with _ e; subst e; exact h.2.2.1) (fun q hq => by
    have e : some (V.int .i64 d) = some (V.int .i64 q) := hq
    injection e with e; injection e with _ e; subst e; exact h.2.2.2)⟩
def PH (t : WxD) (i : Nat) : Prop := nmF (nameOf (t.head i)) = true ∧ (∀ j, j < i → bytesEq (nameOf (t.head j)) (nameOf (t.head i)) = false) ∧ (∀ k, k < 3 → ∀ q, (t.head i)[1 + k]? = some (.int .i64 q) → 0 ≤ q ∧ q ≤ 40) ∧ (∀ q, (t.head i)[4]? = some (.int .i64 q) → 0 ≤ q ∧ q ≤ 364)
def PO (t : WxD) (i : Nat) : Prop := nmF (nameOf (t.ord i)) = true ∧ (∀ j, j < i → bytesEq (nameOf (t.ord j)) (nameOf (t.ord i)) = false) ∧ (∀ q, (t.ord i)[1]? = some (.int .i64 q) → 1 ≤ q ∧ q ≤ 60) ∧ (∀ k, k < 4 → ∀ q, (t.ord i)[2 + k]? = some (.int .i64 q) → 0 ≤ q ∧ q ≤ 1000) ∧ (∀ x y, (t.ord i)[2]? = some (.int .i64 x) → (t.ord i)[3]? = some (.int .i64 y) → x ≤ y) ∧ (∀ x y, (t.ord i)[4]? = some (.int .i64 x) → (t.ord i)[5]? = some (.int .i64 y) → x ≤ y)
set_option maxHeartbeats 2000000 in
theorem f40f {g : Gz} {M M1 : Mem} {t : WxD} {b1 i : Nat} (ok : WxOk g t) (hi : i < t.nH) (h1 : At M b1 (Arr1 t.cells {}) M1) :
    WF tbl g 40 [.int .i64 i, .agg (t.head i), .ptr b1 0] M fun v M' => M' = M ∧ ∃ e, v = .int .i64 e ∧ (e = 0 ↔ PH t i) := by
  obtain ⟨nm, a, b, c, d, e, hr⟩ := ok.hrow i hi
  have hnh := ok.nH
  have h43 : ∀ (bp : Nat) (M M1 : Mem) r, At M bp (Arr1 (.str nm :: r) {}) M1 → ∀ k, k < t.nH → WV tbl g (.func 43 [] [.ptr bp 0]) [.agg (t.head k)] M fun v M' => M' = M ∧ v = .bool (bytesEq (nameOf (t.head k)) nm) := by
    intro bp M M1 r h k hk
    obtain ⟨_, _, _, _, _, _, e⟩ := ok.hrow k hk
    rw [e]; exact WV.func (f43f h)
  have hPH : PH t i ↔ nmF nm = true ∧ (∀ j, j < i → bytesEq (nameOf (t.head j)) nm = false) ∧ (∀ k, k < 3 → ∀ q, [V.str nm, .int .i64 a, .int .i64 b, .int .i64 c, .int .i64 d, .bool e][1 + k]? = some (.int .i64 q) → 0 ≤ q ∧ q ≤ 40) ∧ (0 ≤ d ∧ d ≤ 364) := by
    simp only [PH, hr, nameOf]
    exact and_congr_right fun _ => and_congr_right fun _ => and_congr_right fun _ => ⟨fun h => h d rfl, fun h q hq => by injection hq with hq; injection hq with _ hq; subst hq; exact h⟩
  rw [hr]
  refine WF.trimS (WF.intro rfl (Nat.le_of_ble_eq_true rfl) ?_)
  repeat' first
    | (refine W1.callP (R := fun v => v = .bool (nmF nm)) rfl f41f (fun v hv => ?_); obtain rfl := hv)
    | refine W1.slcToD rfl rfl ok.hH (by omega) (by omega) (fun s' hs' => ?_)
    | refine W1.slcaAllO rfl .here (Nat.le_of_ble_eq_true rfl) ?_
    | (refine W1.callV rfl rfl (WV.func ((f42f (p := fun k => bytesEq (nameOf (t.head k)) nm) hs'.up (by omega) (fun k hk => h43 _ _ _ _ .here k (by omega))).mono fun v M' => ?_)); rintro ⟨rfl, tc, rfl, htc⟩; rw [Int.toNat_natCast] at htc)
    | (refine W1.callV rfl rfl (WV.func ((f38Lf (k := 1) (o := 0) .here (lt1 ⟨_, rfl⟩) (by decide)).mono fun v M' => ?_)); rintro ⟨rfl, td, rfl, htd0⟩; have htd : td = false ↔ 0 ≤ d ∧ d ≤ 364 := htd0.trans (one1 d))
    | (refine W1.callV rfl rfl (WV.func ((f38Lf (k := 3) (o := 1) .here (lt3 ⟨_, rfl⟩ ⟨_, rfl⟩ ⟨_, rfl⟩) (by decide)).mono fun v M' => ?_)); rintro ⟨rfl, tw, rfl, htw⟩)
    | refine W1.ldS rfl (.there h1) rfl ?_
    | refine WC.ret ?_
    | refine WC.seq ?_
    | refine WC.block ?_
    | refine WC.region ?_
    | refine WC.skip ?_
    | refine WC.cond_t rfl (by first | assumption | rfl) ?_
    | refine WC.cond rfl (fun hc => ?_) (fun hc => ?_)
    | refine WO.nil ?_
    | refine WO.cons ?_
    | refine W1.guard_y rfl (by first | assumption | rfl) ?_
    | refine W1.guard_n rfl (by first | assumption | rfl) ?_
    | refine W1.guard rfl (fun hc => ?_) (fun hc => ?_)
    | refine W1.pick_t rfl (by first | assumption | rfl) rfl ?_
    | refine W1.pick_f rfl (by first | assumption | rfl) rfl ?_
    | refine W1.mv rfl ?_
    | refine W1.fa rfl ?_
    | refine W1.mkfn rfl rfl ?_
    | refine W1.not rfl ?_
    | refine W1.bldS rfl rfl rfl (fun bb => ?_)
    | refine W1.box rfl rfl (fun bb => ?_)
    | refine Exists.intro _ (And.intro (Res.tmp rfl Res.nil) ?_)
    | refine W1.ldS rfl .here rfl ?_
  all_goals refine ⟨by repeat (first | exact Suf.refl | apply Suf.cons), _, rfl, ?_⟩
  all_goals rw [hPH]
  all_goals first
    | exact ⟨fun h => absurd h (by decide), fun h => absurd h.1 (by simpa using hc)⟩
    | exact ⟨fun h => absurd h (by decide), fun h => by have h2 := htd.2 h.2.2.2; rw [h2] at hc; cases hc⟩
    | exact ⟨fun h => absurd h (by decide), fun h => by have h2 := htw.2 h.2.2.1; rw [h2] at hc; cases hc⟩
    | exact ⟨fun h => absurd h (by decide), fun h => by have h2 := htc.2 h.2.1; rw [h2] at hc; cases hc⟩
    | exact ⟨fun _ => ⟨by simpa using ‹(!nmF nm) = false›, htc.1 (by assumption), htw.1 (by assumption), htd.1 (by assumption)⟩, fun _ => rfl⟩
set_option maxHeartbeats 2000000 in
theorem f45f {g : Gz} {M M1 : Mem} {t : WxD} {b1 i : Nat} (ok : WxOk g t) (hi : i < t.nO) (h1 : At M b1 (Arr1 t.cells {}) M1) :
    WF tbl g 45 [.int .i64 i, .agg (t.ord i), .ptr b1 0] M fun v M' => M' = M ∧ ∃ e, v = .int .i64 e ∧ (e = 0 ↔ PO t i) := by
  obtain ⟨nm, a, b, c, d, e, hr⟩ := ok.orow i hi
  have hnh := ok.nO
  have h47 : ∀ (bp : Nat) (M M1 : Mem) r, At M bp (Arr1 (.str nm :: r) {}) M1 → ∀ k, k < t.nO → WV tbl g (.func 47 [] [.ptr bp 0]) [.agg (t.ord k)] M fun v M' => M' = M ∧ v = .bool (bytesEq (nameOf (t.ord k)) nm) := by
    intro bp M M1 r h k hk
    obtain ⟨_, _, _, _, _, _, e⟩ := ok.orow k hk
    rw [e]; exact WV.func (f47f h)
  have hPO : PO t i ↔ nmF nm = true ∧ (∀ j, j < i → bytesEq (nameOf (t.ord j)) nm = false) ∧ (1 ≤ a ∧ a ≤ 60) ∧ ((0 ≤ b ∧ b ≤ 1000) ∧ (0 ≤ c ∧ c ≤ 1000) ∧ (0 ≤ d ∧ d ≤ 1000) ∧ (0 ≤ e ∧ e ≤ 1000)) ∧ b ≤ c ∧ d ≤ e := by
    simp only [PO, hr, nameOf]
    refine and_congr_right fun _ => and_congr_right fun _ => ?_
    constructor
    · rintro ⟨h1, h2, h3, h4⟩
      exact ⟨h1 a rfl, ⟨h2 0 (by decide) b rfl, h2 1 (by decide) c rfl, h2 2 (by decide) d rfl, h2 3 (by decide) e rfl⟩, h3 b c rfl rfl, h4 d e rfl rfl⟩
    · rintro ⟨h1, ⟨h2, h3, h4, h5⟩, h6, h7⟩
      refine ⟨fun q hq => ?_, lt4 (fun q hq => ?_) (fun q hq => ?_) (fun q hq => ?_) (fun q hq => ?_), fun x y hx hy => ?_, fun x y hx hy => ?_⟩
      · obtain rfl : a = q := by injection hq with hq; injection hq
        exact h1
      · obtain rfl : b = q := by injection hq with hq; injection hq
        exact h2
      · obtain rfl : c = q := by injection hq with hq; injection hq
        exact h3
      · obtain rfl : d = q := by injection hq with hq; injection hq
        exact h4
      · obtain rfl : e = q := by injection hq with hq; injection hq
        exact h5
      · obtain rfl : b = x := by injection hx with hq; injection hq
        obtain rfl : c = y := by injection hy with hq; injection hq
        exact h6
      · obtain rfl : d = x := by injection hx with hq; injection hq
        obtain rfl : e = y := by injection hy with hq; injection hq
        exact h7
  rw [hr]
  refine WF.trimS (WF.intro rfl (Nat.le_of_ble_eq_true rfl) ?_)
  repeat' first
    | (refine W1.callP (R := fun v => v = .bool (nmF nm)) rfl f41f (fun v hv => ?_); obtain rfl := hv)
    | refine W1.slcToD rfl rfl ok.hO (by omega) (by omega) (fun s' hs' => ?_)
    | (refine W1.callV rfl rfl (WV.func ((f46f (p := fun k => bytesEq (nameOf (t.ord k)) nm) hs'.up (by omega) (fun k hk => h47 _ _ _ _ .here k (by omega))).mono fun v M' => ?_)); rintro ⟨rfl, tc, rfl, htc⟩; rw [Int.toNat_natCast] at htc)
    | (refine W1.callV rfl rfl (WV.func ((f38Lf (k := 1) (o := 0) .here (lt1 ⟨_, rfl⟩) (by decide)).mono fun v M' => ?_)); rintro ⟨rfl, td, rfl, htd0⟩; have htd : td = false ↔ 1 ≤ a ∧ a ≤ 60 := htd0.trans (one1 a))
    | (refine W1.callV rfl rfl (WV.func ((f38Lf (k := 4) (o := 0) .here (lt4 ⟨_, rfl⟩ ⟨_, rfl⟩ ⟨_, rfl⟩ ⟨_, rfl⟩) (by decide)).mono fun v M' => ?_)); rintro ⟨rfl, tw, rfl, htw0⟩; have htw : tw = false ↔ ((0 ≤ b ∧ b ≤ 1000) ∧ (0 ≤ c ∧ c ≤ 1000) ∧ (0 ≤ d ∧ d ≤ 1000) ∧ (0 ≤ e ∧ e ≤ 1000)) := htw0.trans (four4 b c d e))
    | refine W1.ldS rfl (.there h1) rfl ?_
    | refine WC.ret ?_
    | refine WC.seq ?_
    | refine WC.block ?_
    | refine WC.region ?_
    | refine WC.skip ?_
    | refine WC.cond_t rfl (by first | assumption | rfl) ?_
    | refine WC.cond rfl (fun hc => ?_) (fun hc => ?_)
    | refine WO.nil ?_
    | refine WO.cons ?_
    | refine W1.guard_y rfl (by first | assumption | rfl) ?_
    | refine W1.guard_n rfl (by first | assumption | rfl) ?_
    | refine W1.guard rfl (fun hc => ?_) (fun hc => ?_)
    | refine W1.pick_t rfl (by first | assumption | rfl) rfl ?_
    | refine W1.pick_f rfl (by first | assumption | rfl) rfl ?_
    | refine W1.mv rfl ?_
    | refine W1.fa rfl ?_
    | refine W1.mkfn rfl rfl ?_
    | refine W1.gtr rfl rfl ?_
    | refine W1.not rfl ?_
    | refine W1.bldS rfl rfl rfl (fun bb => ?_)
    | refine W1.box rfl rfl (fun bb => ?_)
    | refine Exists.intro _ (And.intro (Res.tmp rfl Res.nil) ?_)
    | refine W1.ldS rfl .here rfl ?_
    | refine W1.ldS rfl (.there .here) rfl ?_
    | refine W1.ldS rfl (.there (.there .here)) rfl ?_
  all_goals refine ⟨by repeat (first | exact Suf.refl | apply Suf.cons), _, rfl, ?_⟩
  all_goals rw [hPO]
  all_goals first
    | exact ⟨fun h => absurd h (by decide), fun h => absurd h.1 (by simpa using hc)⟩
    | exact ⟨fun h => absurd h (by decide), fun h => by have h2 := h.2.2.2.2.1; simp at hc; omega⟩
    | exact ⟨fun h => absurd h (by decide), fun h => by have h2 := h.2.2.2.2.2; simp at hc; omega⟩
    | exact ⟨fun h => absurd h (by decide), fun h => by have h2 := htw.2 h.2.2.2.1; rw [h2] at hc; cases hc⟩
    | exact ⟨fun h => absurd h (by decide), fun h => by have h2 := htd.2 h.2.2.1; rw [h2] at hc; cases hc⟩
    | exact ⟨fun h => absurd h (by decide), fun h => by have h2 := htc.2 h.2.1; rw [h2] at hc; cases hc⟩
    | exact ⟨fun _ => ⟨by simpa using ‹(!nmF nm) = false›, htc.1 (by assumption), htd.1 (by assumption), htw.1 (by assumption), by have := ‹decide (c < b) = false›; simpa using this, by have := ‹decide (e < d) = false›; simpa using this⟩, fun _ => rfl⟩
structure PW (t : WxD) : Prop where
  lots : (0 ≤ t.l0 ∧ t.l0 ≤ 40) ∧ (0 ≤ t.l1 ∧ t.l1 ≤ 40) ∧ (0 ≤ t.l2 ∧ t.l2 ≤ 40)
  fd : 1 ≤ t.fd ∧ t.fd ≤ 364
  nH : t.nH ≤ 6
  hd : ∀ i, i < t.nH → PH t i
  nO : t.nO ≤ 3
  od : ∀ i, i < t.nO → PO t i
theorem PW.val {t : WxD} (h : PW t) : WxVal 40 t := ⟨h.lots.1, h.lots.2.1, h.lots.2.2, h.fd.1, h.nH, h.nO⟩
set_option maxHeartbeats 4000000 in
theorem f7f {g : Gz} {M : Mem} {t : WxD} (ok : WxOk g t) : WF tbl g 7 [.agg t.cells] M fun v M' => M' = M ∧ ∃ p a e, v = .tup [.int .i64 p, .int .i64 a, .int .i64 e] ∧ (e = 0 ↔ PW t) := by
  have hnh := ok.nH
  have hno := ok.nO
  have hsc : ∀ k, k < t.nH → (t.head k).all V.scalar = true := by
    intro k hk; obtain ⟨_, _, _, _, _, _, e⟩ := ok.hrow k hk; rw [e]; rfl
  have osc : ∀ k, k < t.nO → (t.ord k).all V.scalar = true := by
    intro k hk; obtain ⟨_, _, _, _, _, _, e⟩ := ok.orow k hk; rw [e]; rfl
  refine WF.trimS (WF.intro rfl (Nat.le_of_ble_eq_true rfl) ?_)
  repeat' first
    | refine W1.box rfl ok.sc6 (fun b1 => ?_)
    | refine W1.slcaAllO rfl .here (Nat.le_of_ble_eq_true rfl) ?_
    | (refine W1.callV rfl rfl (WV.func ((f38Lf (lo := 0) (hi := 40) (k := 3) (o := 0) .here (lt3 ⟨_, rfl⟩ ⟨_, rfl⟩ ⟨_, rfl⟩) (by decide)).mono fun v M' => ?_)); rintro ⟨rfl, ta, rfl, hta0⟩; have hta : ta = false ↔ (0 ≤ t.l0 ∧ t.l0 ≤ 40) ∧ (0 ≤ t.l1 ∧ t.l1 ≤ 40) ∧ (0 ≤ t.l2 ∧ t.l2 ≤ 40) := hta0.trans (three3 t.l0 t.l1 t.l2 [.int .i64 t.fd, t.sH, t.sO]))
    | (refine W1.callV rfl rfl (WV.func ((f38Lf (lo := 1) (hi := 364) (k := 1) (o := 0) .here (lt1 ⟨_, rfl⟩) (by decide)).mono fun v M' => ?_)); rintro ⟨rfl, tb, rfl, htb0⟩; have htb : tb = false ↔ 1 ≤ t.fd ∧ t.fd ≤ 364 := htb0.trans (one1 t.fd))
    | (refine W1.callV rfl rfl (WV.func ((f39f (P := PH t) ok.hH.up (by omega) hsc (fun i hi => WV.func (f40f ok hi (.there .here)))).mono fun v M' => ?_)); rintro ⟨rfl, a3, e3, rfl, he3⟩)
    | (refine W1.callV rfl rfl (WV.func ((f44f (P := PO t) ok.hO.up (by omega) osc (fun i hi => WV.func (f45f ok hi (.there .here)))).mono fun v M' => ?_)); rintro ⟨rfl, a4, e4, rfl, he4⟩)
    | refine W1.lenSlc rfl ok.hH.up.1 ?_
    | refine W1.lenSlc rfl ok.hO.up.1 ?_
    | refine WC.cond (c := .t 15) rfl (fun hc6 => ?_) (fun hc6 => ?_)
    | refine WC.cond (c := .t 27) rfl (fun hc27 => ?_) (fun hc27 => ?_)
    | refine WC.cond (c := .t 32) rfl (fun hc3 => ?_) (fun hc3 => ?_)
    | refine WC.cond (c := .t 45) rfl (fun hc45 => ?_) (fun hc45 => ?_)
    | refine WC.ret ?_
    | refine WC.seq ?_
    | refine WC.block ?_
    | refine WC.region ?_
    | refine WC.skip ?_
    | refine WC.cond_t rfl (by first | assumption | rfl) ?_
    | refine WC.cond rfl (fun hc => ?_) (fun hc => ?_)
    | refine WO.nil ?_
    | refine WO.cons ?_
    | refine W1.guard_y rfl (by first | assumption | rfl) ?_
    | refine W1.guard_n rfl (by first | assumption | rfl) ?_
    | refine W1.guard rfl (fun hc => ?_) (fun hc => ?_)
    | refine W1.pick_t rfl (by first | assumption | rfl) rfl ?_
    | refine W1.pick_f rfl (by first | assumption | rfl) rfl ?_
    | refine W1.mv rfl ?_
    | refine W1.fa rfl ?_
    | refine W1.ext rfl rfl ?_
    | refine W1.mkfn rfl rfl ?_
    | refine W1.gtr rfl rfl ?_
    | refine W1.neq rfl rfl ?_
    | refine W1.bldS rfl rfl rfl (fun bb => ?_)
    | refine Exists.intro _ (And.intro (Res.tmp rfl (Res.tmp rfl (Res.tmp rfl Res.nil))) ?_)
    | refine W1.ldS rfl .here rfl ?_
    | refine W1.ldS rfl (.there .here) rfl ?_
  all_goals refine ⟨by repeat (first | exact Suf.refl | apply Suf.cons), _, _, _, rfl, ?_⟩
  all_goals first
    | exact ⟨fun h => absurd h (by simpa using hc45), fun h => absurd (he4.2 h.od) (by simpa using hc45)⟩
    | exact ⟨fun h => absurd h (by decide), fun h => by have h2 := h.nO; simp at hc3; omega⟩
    | exact ⟨fun h => absurd h (by simpa using hc27), fun h => absurd (he3.2 h.hd) (by simpa using hc27)⟩
    | exact ⟨fun h => absurd h (by decide), fun h => by have h2 := h.nH; simp at hc6; omega⟩
    | exact ⟨fun h => absurd h (by decide), fun h => by have h2 := htb.2 h.fd; rw [h2] at hc; cases hc⟩
    | exact ⟨fun h => absurd h (by decide), fun h => by have h2 := hta.2 h.lots; rw [h2] at hc; cases hc⟩
    | exact ⟨fun _ => ⟨hta.1 (by assumption), htb.1 (by assumption), by simp at hc6; omega, he3.1 (by simpa using hc27), by simp at hc3; omega, he4.1 (by simpa using hc45)⟩, fun _ => rfl⟩
end Go.Ax
end
section
namespace Go.Ax
open Go.Ax.Ir
def PostL48f (t : WxD) (M : Mem) (v : V) (M' : Mem) : Prop :=
  (∃ e, v = .tup [.nilptr, .int .i64 e] ∧ (!decide (e = 0)) = true ∧ ¬PW t ∧ M' = M) ∨
  (∃ bs br bm w ms, v = .tup [.ptr bs 0, .int .i64 0] ∧ PW t ∧ ms.length = 18 ∧ IntL ms ∧ M' = ST t w ms bs br bm :: RU br :: (bm, MapOf A3 Fd) :: M)
theorem STC.all {t : WxD} {w : Int} {ms : List V} {r m : V} (h : ms.length = 18) : ((STC t w ms r m).drop (0 + 7)).take 18 = ms := by
  rw [Nat.zero_add, show (7 : Nat) = 7 + 0 from rfl, STC.row (by omega), take_all h]
theorem eq18 {a b : List V} (ha : IntL a) (hb : IntL b) (h1 : a.length = 18) (h2 : b.length = 18) : ∃ k, eqk (.ag [.i, .i, .i, .i, .i, .i, .i, .i, .i, .i, .i, .i, .i, .i, .i, .i, .i, .i]) (.agg a) (.agg b) = some k := by
  match a, h1 with
  | [a0, a1, a2, a3, a4, a5, a6, a7, a8, a9, a10, a11, a12, a13, a14, a15, a16, a17], _ =>
    match b, h2 with
    | [b0, b1, b2, b3, b4, b5, b6, b7, b8, b9, b10, b11, b12, b13, b14, b15, b16, b17], _ =>
      simp only [IntL, List.mem_cons, List.mem_nil_iff, or_false, forall_eq_or_imp, forall_eq] at ha hb
      obtain ⟨⟨x0, rfl⟩, ⟨x1, rfl⟩, ⟨x2, rfl⟩, ⟨x3, rfl⟩, ⟨x4, rfl⟩, ⟨x5, rfl⟩, ⟨x6, rfl⟩, ⟨x7, rfl⟩, ⟨x8, rfl⟩, ⟨x9, rfl⟩, ⟨x10, rfl⟩, ⟨x11, rfl⟩, ⟨x12, rfl⟩, ⟨x13, rfl⟩, ⟨x14, rfl⟩, ⟨x15, rfl⟩, ⟨x16, rfl⟩, ⟨x17, rfl⟩⟩ := ha
      obtain ⟨⟨y0, rfl⟩, ⟨y1, rfl⟩, ⟨y2, rfl⟩, ⟨y3, rfl⟩, ⟨y4, rfl⟩, ⟨y5, rfl⟩, ⟨y6, rfl⟩, ⟨y7, rfl⟩, ⟨y8, rfl⟩, ⟨y9, rfl⟩, ⟨y10, rfl⟩, ⟨y11, rfl⟩, ⟨y12, rfl⟩, ⟨y13, rfl⟩, ⟨y14, rfl⟩, ⟨y15, rfl⟩, ⟨y16, rfl⟩, ⟨y17, rfl⟩⟩ := hb
      exact ⟨_, rfl⟩
theorem perm_34 (a b c d e f : Nat × BP) (M : Mem) : (a :: b :: c :: d :: e :: f :: M).Perm ([d, e, f] ++ (a :: b :: c :: M)) :=
  (List.perm_append_comm (l₁ := [a, b, c]) (l₂ := [d, e, f])).append_right M
attribute [local irreducible] W1 WO WC WD WF WV
set_option maxHeartbeats 4000000 in
theorem f48f {g : Gz} {M : Mem} {t : WxD} {later : Int} (ok : WxOk g t) : WF tbl g 48 [.agg t.cells, .int .i64 later] M (PostL48f t M) := by
  have hnh := ok.nH
  have hno := ok.nO
  refine WF.trim (WF.intro rfl (Nat.le_of_ble_eq_true rfl) ?_)
  repeat' first
    | refine W1.box (d := 2) rfl ok.sc6 (fun b2 => ?_)
    | refine W1.ldAll rfl .here rfl ?_
    | (refine W1.callV rfl rfl (WV.func ((f7f ok).mono fun v M' => ?_)); rintro ⟨rfl, p, a, e, rfl, hv⟩)
    | refine WC.cond (c := .t 22) rfl (fun hc => ?_) (fun he0 => ?_)
    | exact ⟨M, [_], List.Perm.refl _, Or.inl ⟨_, rfl, hc, fun h => absurd (hv.2 h) (by simpa using hc), rfl⟩⟩
    | refine WC.ret ?_
    | refine W1.mkmapOf A3 Fd (fun bm => ?_)
    | refine W1.box (d := 27) rfl (by simp [V.cells, splice, WxD.cells, rep, ok.cH, ok.cO]; first | done | (repeat' apply And.intro) <;> rfl) (fun bs => ?_)
    | refine W1.bldS rfl rfl rfl (fun br => ?_)
    | refine W1.st rfl rfl rfl rfl (.there .here) (Nat.le_of_ble_eq_true rfl) ?_
    | refine W1.ldS rfl (.there (.there (.there .here))) rfl ?_
    | refine W1.lenSlc rfl ok.hO.up.1 ?_
    | refine WC.seq ?_
    | refine WC.region ?_
    | refine WC.skip ?_
    | refine WO.nil ?_
    | refine WO.cons ?_
    | refine W1.mv rfl ?_
    | refine W1.nilck rfl ?_
    | refine W1.fa rfl ?_
    | refine W1.ext rfl rfl ?_
    | refine W1.neq rfl rfl ?_
    | refine W1.bld rfl rfl ?_
    | refine Exists.intro _ (And.intro (Res.tmp rfl (Res.tmp rfl Res.nil)) ?_)
  refine WC.forR (blk := 0) (n := t.nO) [1, 2, 9, 35, 36] (fun _ (_ : Unit) => []) (fun i _ M' => ∃ w, M' = RU br :: ST t w (rep 18 [.int .i64 0]) bs br bm :: (bm, MapOf A3 Fd) :: (b2, Arr1 t.cells {}) :: M) () (by omega) rfl (fun _ _ => rfl) (fun _ _ => rfl) (fun _ _ => rfl) (fun _ _ => rfl) ⟨rfl, rfl⟩ (subL.nil _) ⟨0, rfl⟩ ?_ ?_
  · rintro i a M' hi ⟨w, rfl⟩
    obtain ⟨nm, xa, xb, xc, xd, xe, hr⟩ := ok.orow i hi
    repeat' first
      | (refine W1.iaRow rfl rfl ok.hO.up (by omega) (by omega) (fun bq oq hrd => ?_); rw [Int.toNat_natCast, hr] at hrd)
      | refine W1.ldV (vs := [.str nm, .int .i64 xa, .int .i64 xb, .int .i64 xc, .int .i64 xd, .int .i64 xe]) rfl rfl hrd ?_
      | refine W1.alloc (d := 11) rfl (fun b11 => ?_)
      | refine W1.stAll rfl rfl rfl rfl rfl .here ?_
      | refine W1.addU rfl rfl (fun z => ?_)
      | refine W1.st (v := .int .i64 z) rfl rfl rfl rfl (.there (.there .here)) (Nat.le_of_ble_eq_true rfl) ?_
      | exact ⟨(), _, [_], rfl, by repeat (first | exact subL.nil _ | refine subL.cons rfl ?_), List.Perm.refl _, z, rfl⟩
      | refine WC.seq ?_
      | refine WC.block ?_
      | refine WC.region ?_
      | refine WC.draw ?_
      | refine WO.nil ?_
      | refine WO.cons ?_
      | refine WD.nil ?_
      | refine WD.cons0 ?_
      | refine WD.consH ?_
      | refine WD.consR ?_
      | refine W1.mv rfl ?_
      | refine W1.nilck rfl ?_
      | refine W1.fa rfl ?_
      | refine W1.ldS rfl .here rfl (conjR (ReC.ldS rfl rfl .here rfl) (by simp) ?_)
      | refine W1.ldS rfl (.there (.there .here)) rfl (conjR (ReC.ldS rfl rfl (.there (.there .here)) rfl) (by simp) ?_)
  · rintro a M' ⟨w, rfl⟩
    repeat' first
      | refine W1.ldS rfl (.there (.there (.there .here))) rfl ?_
      | refine W1.lenSlc rfl ok.hH.up.1 ?_
      | refine WC.seq ?_
      | refine WC.region ?_
      | refine WO.nil ?_
      | refine WO.cons ?_
      | refine W1.mv rfl ?_
      | refine W1.fa rfl ?_
    refine WC.forR (blk := 2) (n := t.nH) [1, 2, 9, 52, 53] (fun _ (_ : Unit) => []) (fun i _ M' => ∃ ms, ms.length = 18 ∧ IntL ms ∧ M' = RU br :: ST t w ms bs br bm :: (bm, MapOf A3 Fd) :: (b2, Arr1 t.cells {}) :: M) () (by omega) rfl (fun _ _ => rfl) (fun _ _ => rfl) (fun _ _ => rfl) (fun _ _ => rfl) ⟨rfl, rfl⟩ (subL.nil _) ⟨_, rep_len _ _, rep_int _ _, rfl⟩ ?_ ?_
    · rintro i u M' hi ⟨ms, hl, hm, rfl⟩
      obtain ⟨nm, xa, xb, xc, xd, xe, hr⟩ := ok.hrow i hi
      have val := (hv.1 (by simpa using he0)).val
      have h6 := val.nH
      have hf : t.fd ≠ 0 := by have := val.fd; omega
      have hl1 : (splice ms (((i : Int)).toNat * 3) [.int .i64 xa, .int .i64 xb, .int .i64 xc]).length = 18 := (spl_len (by simp only [List.length_cons, List.length_nil]; omega)).trans hl
      have hm1 : IntL (splice ms (((i : Int)).toNat * 3) [.int .i64 xa, .int .i64 xb, .int .i64 xc]) := hm.spl (IntL3 xa xb xc)
      have hl2 : ∀ q, (splice (splice ms (((i : Int)).toNat * 3) [.int .i64 xa, .int .i64 xb, .int .i64 xc]) (((i : Int)).toNat * 3 + Int.toNat 2 * 1) [.int .i64 q]).length = 18 := fun q => (spl_len (by rw [hl1]; simp only [List.length_cons, List.length_nil]; have : Int.toNat 2 = 2 := rfl; omega)).trans hl1
      have hm2 : ∀ q, IntL (splice (splice ms (((i : Int)).toNat * 3) [.int .i64 xa, .int .i64 xb, .int .i64 xc]) (((i : Int)).toNat * 3 + Int.toNat 2 * 1) [.int .i64 q]) := fun q => hm1.set
      have e2 : Int.toNat 2 = 2 := rfl
      have e0 : Int.toNat 0 = 0 := rfl
      repeat' first
        | (refine W1.iaRow rfl rfl ok.hH.up (by omega) (by omega) (fun bq oq hrd => ?_); rw [Int.toNat_natCast, hr] at hrd)
        | refine W1.ldV (vs := [.str nm, .int .i64 xa, .int .i64 xb, .int .i64 xc, .int .i64 xd, .bool xe]) rfl rfl hrd ?_
        | refine W1.alloc (d := 13) rfl (fun b13 => ?_)
        | refine W1.stAll rfl rfl rfl rfl rfl .here ?_
        | refine W1.addU rfl rfl (fun z => ?_)
        | refine W1.subU rfl rfl (fun z => ?_)
        | refine W1.quoU rfl rfl hf (fun z => ?_)
        | refine W1.mnU rfl rfl (fun z => ?_)
        | refine W1.iaa rfl rfl (by omega) (by omega) ?_
        | refine W1.ldX (vs := [.int .i64 xa, .int .i64 xb, .int .i64 xc]) rfl .here (Nat.le_of_ble_eq_true rfl) rfl (conjR (ReC.ldX rfl rfl .here (Nat.le_of_ble_eq_true rfl) rfl) (by simp) ?_)
        | refine W1.stM (vs := [.int .i64 xa, .int .i64 xb, .int .i64 xc]) rfl rfl rfl rfl rfl (by omega) (.there (.there .here)) ?_
        | refine W1.ldM2 rfl (.there (.there .here)) (by assumption) (by omega) (fun q hq => conjR (ReC.ldS rfl rfl (.there (.there .here)) hq) (by simp) ?_)
        | refine W1.ldM2 rfl (.there (.there .here)) (hm2 _) (by rw [hl2]; omega) (fun q hq => conjR (ReC.ldS rfl rfl (.there (.there .here)) hq) (by simp) ?_)
        | (refine W1.stM2 rfl rfl (by omega) (.there (.there .here)) ?_)
        | (refine W1.stM2 rfl rfl (by rw [hl2]; omega) (.there (.there .here)) ?_)
        | exact ⟨(), _, [_], rfl, by repeat (first | exact subL.nil _ | refine subL.cons rfl ?_), List.Perm.refl _, _, (spl_len (by rw [hl2]; simp only [List.length_cons, List.length_nil]; omega)).trans (hl2 _), (hm2 _).set, rfl⟩
        | refine W1.ldS rfl (.there (.there (.there (.there .here)))) rfl (conjR (ReC.ldS rfl rfl (.there (.there (.there (.there .here)))) rfl) (by simp) ?_)
        | refine WC.seq ?_
        | refine WC.block ?_
        | refine WC.region ?_
        | refine WC.draw ?_
        | refine WO.nil ?_
        | refine WO.cons ?_
        | refine WD.nil ?_
        | refine WD.cons0 ?_
        | refine WD.consH ?_
        | refine WD.consR ?_
        | refine W1.mv rfl ?_
        | refine W1.nilck rfl ?_
        | refine W1.fa rfl ?_
        | refine W1.ldS rfl .here rfl (conjR (ReC.ldS rfl rfl .here rfl) (by simp) ?_)
    · rintro u M' ⟨ms, hl, hm, rfl⟩
      repeat' first
        | refine WC.ret ?_
        | refine WC.seq ?_
        | refine WC.region ?_
        | refine WO.nil ?_
        | refine WO.cons ?_
        | refine W1.mv rfl ?_
        | refine Exists.intro _ (And.intro (Res.tmp rfl (Res.tmp rfl Res.nil)) ?_)
      exact ⟨_, [(b2, _)], perm_w5 _ _ _ _ _, Or.inr ⟨bs, br, bm, w, ms, rfl, hv.1 (by simpa using he0), hl, hm, rfl⟩⟩
set_option maxHeartbeats 4000000 in
theorem f34 {g : Gz} {M : Mem} {t : WxD} (ok : WxOk g t) (ht : TZ g) : WF tbl g 34 [.agg t.cells] M fun v M' => M' = M ∧ ∃ a e, v = .tup [.int .i64 a, .int .i64 e] := by
  refine WF.trimS (WF.intro rfl (Nat.le_of_ble_eq_true rfl) ?_)
  repeat' first
    | (with_reducible refine blockK.nrm ?_)
    | (with_reducible refine blockK.rt ?_)
    | (with_reducible refine blockK.here ?_)
    | (with_reducible refine thenC.nrm ?_)
    | (with_reducible refine thenC.rt ?_)
    | (with_reducible refine thenC.ext ?_)
    | (with_reducible refine LC.ret ?_)
    | refine W1.box (d := 1) rfl ok.sc6 (fun b1 => ?_)
    | ((with_reducible refine W1.isDst 10 ?_); refine W1.ldAll rfl .here rfl ?_)
    | ((with_reducible refine W1.isDst 11 ?_); refine W1.callV rfl rfl (WV.func ((f48f ok).mono fun v M' => ?_)); rintro (⟨e, rfl, he, hn, rfl⟩ | ⟨bs, br, bm, w, ms, rfl, pw, hl, hi, rfl⟩) <;> try have val := pw.val)
    | ((with_reducible refine W1.isCall 62 ?_); refine W1.callV rfl rfl (WV.func ((f62o ok ht val.up hl hi).mono fun v M' => ?_)); rintro ⟨rfl, kk, rfl⟩)
    | exact ⟨⟨R, rfl⟩, _, _, rfl⟩
    | exact ⟨by repeat (first | exact Suf.refl | apply Suf.cons), _, _, rfl⟩
    | ((with_reducible refine WC.isLoop 1 ?_); refine WC.loopB (ι := Int × Nat) (blk := 1) (fun x => (365 - x.1).toNat) (fun x => [(1, .ptr b1 0), (4, .ptr x.2 0), (6, .int .i64 x.1)]) (fun x M' => x.1 ≤ 365 ∧ 1 ≤ x.1 ∧ ∃ br bm w ms, ms.length = 18 ∧ IntL ms ∧ M' = ST t w ms x.2 br bm :: RU br :: (bm, MapOf A3 Fd) :: (b1, Arr1 t.cells {}) :: M) (fun x M' => ∃ R, M' = R ++ M) (1, bs) (subL.cons rfl (subL.cons rfl (subL.cons rfl (subL.nil _)))) ⟨by show (1 : Int) ≤ 365; decide, by show (1 : Int) ≤ 1; decide, br, bm, w, ms, hl, hi, rfl⟩ ?_ ?_ <;> first | (rintro ⟨day, bs⟩ M' ⟨hd0, hd1, br, bm, w, ms, hl, hi, rfl⟩; dsimp only at hd0 hd1 ⊢) | (rintro ⟨day, bs⟩ M' ⟨R, rfl⟩))
    | ((with_reducible refine W1.isDst 27 ?_); refine W1.ldAll rfl (.there (.there (.there .here))) rfl ?_)
    | ((with_reducible refine W1.isDst 29 ?_); refine W1.callV rfl rfl (WV.func ((f48f ok).mono fun v M' => ?_)); rintro (⟨e, rfl, he, hn, rfl⟩ | ⟨bs2, br2, bm2, w2, ms2, rfl, pw2, hl2, hi2, rfl⟩) <;> try exact absurd pw hn)
    | refine W1.ldX (vs := ms2) rfl .here (by rw [STC.len hl2]; decide) (STC.all hl2) (conjR (ReC.ldX rfl rfl .here (by rw [STC.len hl2]; decide) (STC.all hl2)) (by simp) ?_)
    | refine W1.ldX (vs := ms) rfl (.there (.there (.there .here))) (by rw [STC.len hl]; decide) (STC.all hl) (conjR (ReC.ldX rfl rfl (.there (.there (.there .here))) (by rw [STC.len hl]; decide) (STC.all hl)) (by simp) ?_)
    | refine W1.eqv rfl rfl (eq18 hi2 hi hl2 hl).choose_spec ?_
    | ((with_reducible refine W1.isDst 43 ?_); refine W1.callV rfl rfl (WV.func ((f62o ok ht val.up hl2 hi2).mono fun v M' => ?_)); rintro ⟨rfl, k2, rfl⟩)
    | refine W1.add rfl rfl (by omega) (by omega) ?_
    | refine WC.condD rfl (fun hp hd => ?_) (fun hp hd => ?_)
    | ((with_reducible refine LC.next ?_); exact ⟨(day + 1, bs), _, [_, _, _], by simp only; omega, subL.cons rfl (subL.cons rfl (subL.cons rfl (subL.nil _))), List.Perm.refl _, by simp only; omega, by simp only; omega, br, bm, w, ms, hl, hi, rfl⟩)
    | ((with_reducible refine LC.next ?_); exact ⟨(day + 1, bs2), _, [_, _, _], by simp only; omega, subL.cons rfl (subL.cons rfl (subL.cons rfl (subL.nil _))), perm_34 _ _ _ _ _ _ _, by simp only; omega, by simp only; omega, br2, bm2, w2, ms2, hl2, hi2, rfl⟩)
    | ((with_reducible refine LC.out ?_); exact ⟨(day, bs), _, [], subL.cons rfl (subL.cons rfl (subL.cons rfl (subL.nil _))), List.Perm.refl _, [_, _, _, _], rfl⟩)
    | refine WC.ret ?_
    | refine WC.seq ?_
    | refine WC.block ?_
    | refine WC.region ?_
    | refine WC.draw ?_
    | refine WC.skip ?_
    | refine WC.exit ?_
    | refine WC.cond_t rfl (by first | assumption | rfl) ?_
    | refine WC.cond_f rfl (by first | assumption | rfl) ?_
    | refine WC.cond rfl (fun hc => ?_) (fun hc => ?_)
    | refine WO.nil ?_
    | refine WO.cons ?_
    | refine WD.nil ?_
    | refine WD.cons0 ?_
    | refine WD.consR ?_
    | refine W1.mv rfl ?_
    | refine W1.nilck rfl ?_
    | refine W1.fa rfl ?_
    | refine W1.ext rfl rfl ?_
    | refine W1.leq rfl rfl ?_
    | refine W1.neq rfl rfl ?_
    | refine W1.not rfl ?_
    | refine Exists.intro _ (And.intro (Res.tmp rfl (Res.tmp rfl Res.nil)) ?_)
end Go.Ax
end
section
namespace Go.Ax
open Go.Ax.Ir
theorem Cell.bool_invW {g : Gz} {v : V} {b : Nat} (h : Cell g .bool v b) : ∃ t, v = .bool t := by simp only [Cell] at h; exact h.1
abbrev tyHead : List Ty := [.str, .int, .int, .int, .int, .bool]
abbrev tyOrd : List Ty := [.str, .int, .int, .int, .int, .int]
abbrev tyStore : List Ty := [.int, .int, .int, .int, .sl tyHead, .sl tyOrd]
abbrev tyAnew : List Ty := tyStore ++ [.int, .sl [.int], .int, .int, .int]
theorem bridge {g : Gz} {vs : List V} {b : Nat} (h : Row g tyStore vs b) (hb : b ≤ 1048576) : ∃ t : WxD, vs = t.cells ∧ WxOk g t := by
  obtain ⟨v0, vs, a0, b0, rfl, c0, h, l0⟩ := h.cons_inv
  obtain ⟨v1, vs, a1, b1, rfl, c1, h, l1⟩ := h.cons_inv
  obtain ⟨v2, vs, a2, b2, rfl, c2, h, l2⟩ := h.cons_inv
  obtain ⟨v3, vs, a3, b3, rfl, c3, h, l3⟩ := h.cons_inv
  obtain ⟨v4, vs, a4, b4, rfl, c4, h, l4⟩ := h.cons_inv
  obtain ⟨v5, vs, a5, b5, rfl, c5, h, l5⟩ := h.cons_inv
  obtain rfl := h.nil_inv
  obtain ⟨x0, rfl⟩ := c0.int_inv
  obtain ⟨x1, rfl⟩ := c1.int_inv
  obtain ⟨x2, rfl⟩ := c2.int_inv
  obtain ⟨x3, rfl⟩ := c3.int_inv
  obtain ⟨n4, r4, k4, s4, sc4, ln4, ls4, hr4⟩ := c4.sl_inv
  obtain ⟨n5, r5, k5, s5, sc5, ln5, ls5, hr5⟩ := c5.sl_inv
  refine ⟨⟨x0, x1, x2, x3, v4, v5, n4, n5, r4, r5⟩, rfl, ⟨s4, s5, by show n4 ≤ _; omega, by show n5 ≤ _; omega, sc4, sc5, fun i hi => ?_, fun i hi => ?_⟩⟩
  · obtain ⟨w0, ws, _, _, er, y0, h, _⟩ := (hr4 i hi).cons_inv
    obtain ⟨w1, ws, _, _, rfl, y1, h, _⟩ := h.cons_inv
    obtain ⟨w2, ws, _, _, rfl, y2, h, _⟩ := h.cons_inv
    obtain ⟨w3, ws, _, _, rfl, y3, h, _⟩ := h.cons_inv
    obtain ⟨w4, ws, _, _, rfl, y4, h, _⟩ := h.cons_inv
    obtain ⟨w5, ws, _, _, rfl, y5, h, _⟩ := h.cons_inv
    obtain rfl := h.nil_inv
    obtain ⟨nm, rfl⟩ := y0.str_inv
    obtain ⟨a, rfl⟩ := y1.int_inv
    obtain ⟨b, rfl⟩ := y2.int_inv
    obtain ⟨c, rfl⟩ := y3.int_inv
    obtain ⟨d, rfl⟩ := y4.int_inv
    obtain ⟨e, rfl⟩ := y5.bool_invW
    exact ⟨nm, a, b, c, d, e, er⟩
  · obtain ⟨w0, ws, _, _, er, y0, h, _⟩ := (hr5 i hi).cons_inv
    obtain ⟨w1, ws, _, _, rfl, y1, h, _⟩ := h.cons_inv
    obtain ⟨w2, ws, _, _, rfl, y2, h, _⟩ := h.cons_inv
    obtain ⟨w3, ws, _, _, rfl, y3, h, _⟩ := h.cons_inv
    obtain ⟨w4, ws, _, _, rfl, y4, h, _⟩ := h.cons_inv
    obtain ⟨w5, ws, _, _, rfl, y5, h, _⟩ := h.cons_inv
    obtain rfl := h.nil_inv
    obtain ⟨nm, rfl⟩ := y0.str_inv
    obtain ⟨a, rfl⟩ := y1.int_inv
    obtain ⟨b, rfl⟩ := y2.int_inv
    obtain ⟨c, rfl⟩ := y3.int_inv
    obtain ⟨d, rfl⟩ := y4.int_inv
    obtain ⟨e, rfl⟩ := y5.int_inv
    exact ⟨nm, a, b, c, d, e, er⟩
end Go.Ax
end
section
namespace Go.Ax
open Go.Ax.Ir
def PutT2 (ft : FT FnR) (f : Nat) (t : Ty) : Prop := ∀ g v k, Cell g t v k → PutA ft g f [v] (2 * k)
def PutR2 (ft : FT FnR) (f : Nat) (ts : List Ty) : Prop := ∀ g vs k, Ax.Row g ts vs k → PutA ft g f [.agg vs] (2 * k)
inductive ItemsOk2 (ft : FT FnR) : List PItem → List Ty → Prop
  | nil : ItemsOk2 ft [] []
  | one {f : Nat} {t : Ty} {is : List PItem} {ts : List Ty} (h : PutT2 ft f t) (r : ItemsOk2 ft is ts) : ItemsOk2 ft (⟨false, 1, f⟩ :: is) (t :: ts)
  | many {f n : Nat} {us : List Ty} {is : List PItem} {ts : List Ty} (hn : us.length = n) (h : PutR2 ft f us) (r : ItemsOk2 ft is ts) : ItemsOk2 ft (⟨true, n, f⟩ :: is) (us ++ ts)
theorem PutT.two {ft : FT FnR} {f : Nat} {t : Ty} (h : PutT ft f t) : PutT2 ft f t := fun g v k hv => (h g v k hv).le (by omega)
theorem PutR.two {ft : FT FnR} {f : Nat} {ts : List Ty} (h : PutR ft f ts) : PutR2 ft f ts := fun g v k hv => (h g v k hv).le (by omega)
theorem sumTo2 (f : Nat → Nat) : ∀ n, sumTo (fun i => 2 * f i) n = 2 * sumTo f n
  | 0 => rfl
  | n + 1 => by simp only [sumTo]; rw [sumTo2 f n]; omega
section
variable {ft : FT FnR} {g : Gz}
theorem thenC.nrmP {A : Env → Mem → Prop} {K : X → Env → Mem → Prop} {L : Env} {M : Mem} (h : A L M) : thenC A K .normal L M := h
theorem WC.isR06 {cur : Option Nat} {o : IOp} {gd : Option (Nat × Bool)} {r : List IOper} {b : ICode} {L : Env} {M : Mem} {K : X → Env → Mem → Prop} (h : WC ft g cur (.seq (.region (⟨some 6, o, gd⟩ :: r)) b) L M K) : WC ft g cur (.seq (.region (⟨some 6, o, gd⟩ :: r)) b) L M K := h
theorem W1.isD29 {o : IOp} {L : Env} {M : Mem} {K : Env → Mem → Prop} (h : W1 ft g ⟨some 29, o, none⟩ L M K) : W1 ft g ⟨some 29, o, none⟩ L M K := h
attribute [local irreducible] W1 WO WC WD WF WV
theorem putT2_listN {f p fe e : Nat} {ts : List Ty} (hf : ft.fn f = some (putLIr p fe)) (ho : ∀ a hp, ft.orc f a hp = none) (hp : ft.fn p = some (putsIr e true)) (hop : ∀ a hp, ft.orc p a hp = none) (hlen : ts.length = e) (he : PutR2 ft fe ts) : PutT2 ft f (.sl ts) := by
  intro g v k hv
  simp only [Cell] at hv
  obtain ⟨n, rows, kf, h1, h2, h3, h4, h5⟩ := hv
  subst hlen
  exact PutA.vac fun hk => putL_ok hf ho (PutA.le (B := 1 + sumTo (fun i => 2 * kf i) n) (puts_ok hp hop h1 (Or.inl rfl) (by omega) fun i hi => (he g _ _ (h5 i hi))) (by rw [sumTo2]; omega))
theorem putE {f : Nat} (hf : ft.fn f = some putNIr) (ho : ∀ a hp, ft.orc f a hp = none) (n : Int) {b : Nat} {cn cs : List V} {M : Mem} (hM : HpM b cn cs M) (hl1 : cn.length + 1 ≤ lim40) : WF ft g f [.ptr b 0, .int .i64 n] M fun _ M' => HpM b (cn ++ [.int .i64 n]) cs M' := by
  obtain ⟨sn, ss, Mn, Ms, hp, l1, l2⟩ := hM.ex
  have hss := l2.scalar
  have hl1' : cn.length + 1 ≤ 1099511627776 := hl1
  have hfin : ∀ (b' bb : Nat) (M' : Mem), M' = (b', Arr1 (cn ++ [.int .i64 n]) {}) :: (bb, Arr1 [.int .i64 n] {}) :: (b, Arr1 [.slice b' 0 (cn.length + 1) none 1, ss] {}) :: Ms →
      ∃ M1 R, M'.Perm (R ++ M1) ∧ HpM b (cn ++ [.int .i64 n]) cs M1 := by
    rintro b' bb M' rfl
    refine ⟨_, _, perm3 _ _ _ _, ⟨⟨_, ss, [(b', Arr1 (cn ++ [.int .i64 n]) {})], Ms, List.Perm.refl _, Or.inr ⟨b', by simp, rfl⟩, l2⟩, hM.ints.app fun v hv => ⟨n, by simpa using hv⟩, hM.strs⟩⟩
  refine WF.permM hp (WF.trim (WF.intro hf (Nat.le_of_ble_eq_true rfl) ?_ ho))
  rcases l1 with ⟨rfl, rfl, rfl⟩ | ⟨bn, rfl, rfl⟩
  · repeat' first
      | refine WC.region ?_
      | refine WO.nil ?_
      | refine WO.cons ?_
      | refine W1.mv rfl ?_
      | refine W1.nilck rfl ?_
      | refine W1.fa rfl ?_
      | refine W1.bldS rfl rfl rfl (fun bb => ?_)
      | refine Exists.intro _ (And.intro Res.nil ?_)
      | refine W1.ldS rfl .here rfl ?_
      | refine W1.appN (n := 1) rfl rfl (Src.row .here (Nat.le_of_ble_eq_true rfl)) (by decide) (by decide) (fun b' => ?_)
      | refine W1.st rfl rfl rfl rfl (.there (.there .here)) (Nat.le_of_ble_eq_true rfl) ?_
    exact hfin _ _ _ rfl
  · repeat' first
      | refine WC.region ?_
      | refine WO.nil ?_
      | refine WO.cons ?_
      | refine W1.mv rfl ?_
      | refine W1.nilck rfl ?_
      | refine W1.fa rfl ?_
      | refine W1.bldS rfl rfl rfl (fun bb => ?_)
      | refine Exists.intro _ (And.intro Res.nil ?_)
      | refine W1.ldS rfl .here rfl ?_
      | refine W1.app (n := 1) rfl rfl (Src.row .here (Nat.le_of_ble_eq_true rfl)) (by decide) (.there (.there .here)) (by simp) (by show (cn.length + 1) * 8 ≤ 35184372088832; omega) (fun b' => ?_)
      | refine W1.st rfl rfl rfl rfl (.there (.there .here)) (Nat.le_of_ble_eq_true rfl) ?_
    exact hfin _ _ _ rfl
set_option maxHeartbeats 2000000 in
theorem puts3E {p fe : Nat} (hf : ft.fn p = some (putsIr 1 false)) (ho : ∀ a hp, ft.orc p a hp = none) (hfe : ft.fn fe = some putNIr) (hoe : ∀ a hp, ft.orc fe a hp = none) {x y z : Int} {b b3 : Nat} {cn cs : List V} {M : Mem} (hM : HpM b cn cs M) (hl1 : cn.length + 4 ≤ lim40) :
    WF ft g p [.ptr b 0, .slice b3 0 3 (some 3) 1, .func fe [] []] ((b3, Arr1 [.int .i64 x, .int .i64 y, .int .i64 z] {}) :: M) fun _ M' => ∃ M1, HpM b (cn ++ [.int .i64 3, .int .i64 x, .int .i64 y, .int .i64 z]) cs M1 ∧ M' = (b3, Arr1 [.int .i64 x, .int .i64 y, .int .i64 z] {}) :: M1 := by
  obtain ⟨sn, ss, Mn, Ms, hp, l1, l2⟩ := hM.ex
  have hss := l2.scalar
  have hl1' : cn.length + 4 ≤ 1099511627776 := hl1
  refine WF.permM (List.Perm.cons _ hp) (WF.trim (WF.intro hf (Nat.le_of_ble_eq_true rfl) ?_ ho))
  have key : ∀ (b' bb : Nat) (L : Env) (K : X → Env → Mem → Prop) (c : ICode), (∀ M1, HpM b (cn ++ [.int .i64 3]) cs M1 → WC ft g none c L ((b3, Arr1 [.int .i64 x, .int .i64 y, .int .i64 z] {}) :: M1) K) →
      WC ft g none c L ((b', Arr1 (cn ++ [.int .i64 3]) {}) :: (bb, Arr1 [.int .i64 3] {}) :: (b3, Arr1 [.int .i64 x, .int .i64 y, .int .i64 z] {}) :: (b, Arr1 [.slice b' 0 (cn.length + 1) none 1, ss] {}) :: Ms) K := by
    intro b' bb L K c h
    have hP : ((b', Arr1 (cn ++ [.int .i64 3]) {}) :: (bb, Arr1 [.int .i64 3] {}) :: (b3, Arr1 [.int .i64 x, .int .i64 y, .int .i64 z] {}) :: (b, Arr1 [.slice b' 0 (cn.length + 1) none 1, ss] {}) :: Ms).Perm ((bb, Arr1 [.int .i64 3] {}) :: (b3, Arr1 [.int .i64 x, .int .i64 y, .int .i64 z] {}) :: (b, Arr1 [.slice b' 0 (cn.length + 1) none 1, ss] {}) :: ((b', Arr1 (cn ++ [.int .i64 3]) {}) :: Ms)) :=
      (List.perm_middle (l₁ := [_, _, _]) (a := (b', Arr1 (cn ++ [.int .i64 3]) {})) (l₂ := Ms)).symm
    refine WC.permM hP (WC.drop (List.sublist_cons_self _ _) (h _ ?_))
    exact ⟨⟨_, ss, [(b', Arr1 (cn ++ [.int .i64 3]) {})], Ms, List.Perm.refl _, Or.inr ⟨b', by simp, rfl⟩, l2⟩, hM.ints.app fun v hv => ⟨3, by simpa using hv⟩, hM.strs⟩
  rcases l1 with ⟨rfl, rfl, rfl⟩ | ⟨bn, rfl, rfl⟩
  all_goals
    repeat' first
      | (with_reducible refine thenC.nrmP ?_)
      | ((with_reducible refine WC.isR06 ?_); refine key _ _ _ _ _ fun M1 hM1 => ?_)
      | refine W1.len rfl ?_
      | refine WC.unroll ?_
      | refine WC.cond_t rfl rfl ?_
      | refine WC.cond_f rfl rfl ?_
      | refine W1.ia rfl rfl (by omega) (by omega) ?_
      | refine W1.add rfl rfl (by omega) (by omega) ?_
      | ((with_reducible refine W1.isD29 ?_); refine W1.ldS rfl .here rfl ?_)
      | (refine W1.callV rfl rfl (WV.func (WF.monoP ((putE hfe hoe _ hM1 (by first | (simp only [List.length_append, List.length_cons, List.length_nil, lim40]; done) | (simp only [List.length_append, List.length_cons, List.length_nil, lim40] at hl1' ⊢; omega))).frame (R := [_]) (List.perm_append_comm (l₁ := [_]))) fun v M' hM => ?_)); obtain ⟨M2, hM1, rfl⟩ := hM; refine ⟨_ :: M2, ?_, List.perm_append_comm⟩)
      | refine W1.appN (n := 1) rfl rfl (Src.row .here (Nat.le_of_ble_eq_true rfl)) (by decide) (by decide) (fun b' => ?_)
      | refine W1.app (n := 1) rfl rfl (Src.row .here (Nat.le_of_ble_eq_true rfl)) (by decide) (.there (.there (.there .here))) (by simp) (by show (cn.length + 1) * 8 ≤ 35184372088832; omega) (fun b' => ?_)
      | refine W1.st rfl rfl rfl rfl (.there (.there (.there .here))) (Nat.le_of_ble_eq_true rfl) ?_
      | refine W1.ldS rfl (.there .here) rfl ?_
      | refine WC.seq ?_
      | refine WC.block ?_
      | refine WC.region ?_
      | refine WC.skip ?_
      | refine WC.exit ?_
      | refine WO.nil ?_
      | refine WO.cons ?_
      | refine W1.mv rfl ?_
      | refine W1.nilck rfl ?_
      | refine W1.fa rfl ?_
      | refine W1.lss rfl rfl ?_
      | refine W1.bldS rfl rfl rfl (fun bb => ?_)
      | refine Exists.intro _ (And.intro Res.nil ?_)
  all_goals exact ⟨(b3, _) :: M2, [], List.Perm.refl _, M2, by simpa using hM1, rfl⟩
theorem chain2_ok {hs bx : Nat} (hne : bx < 4) (hh : hs < 4) : ∀ {is : List PItem} {ts : List Ty}, ItemsOk2 ft is ts → ∀ {vs : List V} {pre : List V} {k : Nat}, Ax.Row g ts vs k → ∃ ns ss : List V, ns.length ≤ 2 * k ∧ ss.length ≤ 2 * k ∧ IntL ns ∧ StrL ss ∧
    ∀ (b bb d : Nat) (cn cs : List V) (M : Mem) (L : Env) (K : X → Env → Mem → Prop), 4 ≤ d → lk L hs = some (.ptr b 0) → lk L bx = some (.ptr bb 0) → HpM b cn cs M → cn.length + 2 * k ≤ lim40 → cs.length + 2 * k ≤ lim40 →
      (∀ L' M', HpM b (cn ++ ns) (cs ++ ss) M' → K .normal L' ((bb, Arr1 (pre ++ vs) {}) :: M')) → WC ft g none (putChain hs bx d pre.length is) L ((bb, Arr1 (pre ++ vs) {}) :: M) K := by
  intro is ts hI
  have l40 : lim40 = 1099511627776 := rfl
  have step : ∀ {it : PItem} {is : List PItem} {ts : List Ty} {vs' pre v1 : List V} {val : V} {k1 k2 k : Nat}, ItemsOk2 ft is ts → PutA ft g it.fn [val] (2 * k1) → ((it.ag = false ∧ v1 = [val] ∧ it.sz = 1) ∨ (it.ag = true ∧ val = .agg v1 ∧ v1.length = it.sz)) → Ax.Row g ts vs' k2 → k1 + k2 ≤ k →
      (∀ {vs : List V} {pre : List V} {k : Nat}, Ax.Row g ts vs k → ∃ ns ss : List V, ns.length ≤ 2 * k ∧ ss.length ≤ 2 * k ∧ IntL ns ∧ StrL ss ∧
        ∀ (b bb d : Nat) (cn cs : List V) (M : Mem) (L : Env) (K : X → Env → Mem → Prop), 4 ≤ d → lk L hs = some (.ptr b 0) → lk L bx = some (.ptr bb 0) → HpM b cn cs M → cn.length + 2 * k ≤ lim40 → cs.length + 2 * k ≤ lim40 →
          (∀ L' M', HpM b (cn ++ ns) (cs ++ ss) M' → K .normal L' ((bb, Arr1 (pre ++ vs) {}) :: M')) → WC ft g none (putChain hs bx d pre.length is) L ((bb, Arr1 (pre ++ vs) {}) :: M) K) →
      ∃ ns ss : List V, ns.length ≤ 2 * k ∧ ss.length ≤ 2 * k ∧ IntL ns ∧ StrL ss ∧
        ∀ (b bb d : Nat) (cn cs : List V) (M : Mem) (L : Env) (K : X → Env → Mem → Prop), 4 ≤ d → lk L hs = some (.ptr b 0) → lk L bx = some (.ptr bb 0) → HpM b cn cs M → cn.length + 2 * k ≤ lim40 → cs.length + 2 * k ≤ lim40 →
          (∀ L' M', HpM b (cn ++ ns) (cs ++ ss) M' → K .normal L' ((bb, Arr1 (pre ++ (v1 ++ vs')) {}) :: M')) → WC ft g none (putChain hs bx d pre.length (it :: is)) L ((bb, Arr1 (pre ++ (v1 ++ vs')) {}) :: M) K := by
    intro it is ts vs' pre v1 val k1 k2 k hI h hval hr hk ih
    obtain ⟨ns1, ss1, a1, a2, a3, a4, a5⟩ := h.call
    have hval' : (it.ag = false ∧ v1 = [val]) ∨ (it.ag = true ∧ val = .agg v1 ∧ v1.length = it.sz) := by
      rcases hval with ⟨e1, e2, _⟩ | e
      · exact Or.inl ⟨e1, e2⟩
      · exact Or.inr e
    cases is with
    | nil =>
      cases hI
      simp only [Ax.Row] at hr; subst hr
      exact ⟨ns1, ss1, by omega, by omega, a3, a4, fun b bb d cn cs M L K hd l1 l2 hM q1 q2 hK =>
        WC.region (grp_ok hne hh hval' a5 hd l1 l2 hM (by omega) (by omega) _ fun L' M' _ _ hM' => hK L' M' hM')⟩
    | cons i is =>
      obtain ⟨ns2, ss2, b1, b2, b3, b4, b5⟩ := ih (pre := pre ++ v1) hr
      refine ⟨ns1 ++ ns2, ss1 ++ ss2, by simp only [List.length_append]; omega, by simp only [List.length_append]; omega, a3.app b3, a4.app b4, fun b bb d cn cs M L K hd l1 l2 hM q1 q2 hK => ?_⟩
      refine WC.seq (WC.region (grp_ok hne hh hval' a5 hd l1 l2 hM (by omega) (by omega) _ fun L' M' m1 m2 hM' => ?_))
      have e0 : pre ++ (v1 ++ vs') = (pre ++ v1) ++ vs' := by simp
      have e1 : (pre ++ v1).length = pre.length + it.sz := by
        rcases hval with ⟨_, rfl, e⟩ | ⟨_, _, e⟩
        · simp [e]
        · simp [e]
      rw [e0, ← e1]
      exact b5 b bb (d + 4) (cn ++ ns1) (cs ++ ss1) M' L' K (by omega) m1 m2 hM' (by simp only [List.length_append]; omega) (by simp only [List.length_append]; omega) (fun L'' M'' hM'' => by
        have := hK L'' M'' (by simpa using hM''); rw [e0] at this; exact this)
  induction hI with
  | nil =>
    intro vs pre k _
    exact ⟨[], [], by simp, by simp, by simp [IntL], by simp [StrL], fun b bb d cn cs M L K _ _ _ hM _ _ hK => WC.skip (hK L M (by simpa using hM))⟩
  | @one f t is ts h r ih =>
    intro vs pre k hrow
    simp only [Ax.Row] at hrow
    obtain ⟨v, vs', k1, k2, rfl, hv, hr, hk⟩ := hrow
    exact step (v1 := [v]) r (h g v k1 hv) (Or.inl ⟨rfl, rfl, rfl⟩) hr hk ih
  | @many f n us is ts hn h r ih =>
    intro vs pre k hrow
    obtain ⟨v1, v2, k1, k2, rfl, hv, hr, hk⟩ := hrow.split
    exact step r (h g v1 k1 hv) (Or.inr ⟨rfl, rfl, by rw [hv.length, hn]⟩) hr hk ih
theorem putG2_ok {f : Nat} {is : List PItem} {ts : List Ty} (hf : ft.fn f = some (putGIr 0 1 3 is)) (ho : ∀ a hp, ft.orc f a hp = none) (hI : ItemsOk2 ft is ts) : PutR2 ft f ts := by
  intro g vs k hrow
  obtain ⟨ns, ss, a1, a2, a3, a4, a5⟩ := chain2_ok (g := g) (hs := 0) (bx := 3) (by omega) (by omega) hI (pre := []) hrow
  refine ⟨ns, ss, a1, a2, a3, a4, fun b cn cs M hM q1 q2 => ?_⟩
  refine WF.trim (WF.intro hf (Nat.le_of_ble_eq_true (by show Nat.ble 2 (4 + 4 * is.length) = true; exact Nat.ble_eq_true_of_le (by omega))) ?_ ho)
  refine WC.seq (WC.region (WO.cons (W1.box rfl hrow.cells fun bb => WO.nil ?_)))
  refine a5 b bb 4 cn cs M _ _ (by omega) rfl rfl hM q1 q2 fun L' M' hM' => ?_
  exact ⟨_, Res.nil, M', [(bb, Arr1 ([] ++ vs) {})], List.Perm.refl _, hM'⟩
theorem putAll2_ok {f : Nat} {is : List PItem} {ts : List Ty} (hf : ft.fn f = some (putGIr 1 0 2 is)) (ho : ∀ a hp, ft.orc f a hp = none) (hI : ItemsOk2 ft is ts) {vs : List V} {k : Nat} (hrow : Ax.Row g ts vs k) : ∃ ns ss : List V, ns.length ≤ 2 * k ∧ ss.length ≤ 2 * k ∧ IntL ns ∧ StrL ss ∧
    ∀ b cn cs M, HpM b cn cs M → cn.length + 2 * k ≤ lim40 → cs.length + 2 * k ≤ lim40 → WF ft g f [.agg vs, .ptr b 0] M fun _ M' => HpM b (cn ++ ns) (cs ++ ss) M' := by
  obtain ⟨ns, ss, a1, a2, a3, a4, a5⟩ := chain2_ok (g := g) (hs := 1) (bx := 2) (by omega) (by omega) hI (pre := []) hrow
  refine ⟨ns, ss, a1, a2, a3, a4, fun b cn cs M hM q1 q2 => ?_⟩
  refine WF.trim (WF.intro hf (Nat.le_of_ble_eq_true (by show Nat.ble 2 (4 + 4 * is.length) = true; exact Nat.ble_eq_true_of_le (by omega))) ?_ ho)
  refine WC.seq (WC.region (WO.cons (W1.box rfl hrow.cells fun bb => WO.nil ?_)))
  refine a5 b bb 4 cn cs M _ _ (by omega) rfl rfl hM q1 q2 fun L' M' hM' => ?_
  exact ⟨_, Res.nil, M', [(bb, Arr1 ([] ++ vs) {})], List.Perm.refl _, hM'⟩
end
end Go.Ax
end
section
namespace Go.Ax
open Go.Ax.Ir
abbrev ftb : FT FnR := (tbl : FT FnR)
section
variable {g : Gz}
attribute [local irreducible] W1 WO WC WD WF WV
theorem put_bool (t : Bool) : PutA ftb g 94 [.bool t] 1 := by
  refine ⟨[.int .i64 (if t then 1 else 0)], [], by simp, by simp, fun v hv => ⟨_, by simpa using hv⟩, by simp [StrL], fun b cn cs M hM hl1 hl2 => ?_⟩
  obtain ⟨sn, ss, Mn, Ms, hp, l1, l2⟩ := hM.ex
  have hss := l2.scalar
  have hl1' : cn.length + 1 ≤ 1099511627776 := hl1
  have hfin : ∀ (n : Int) (b' bb : Nat) (M' : Mem), M' = (b', Arr1 (cn ++ [.int .i64 n]) {}) :: (bb, Arr1 [.int .i64 n] {}) :: (b, Arr1 [.slice b' 0 (cn.length + 1) none 1, ss] {}) :: Ms →
      ∃ M1 R, M'.Perm (R ++ M1) ∧ HpM b (cn ++ [.int .i64 n]) (cs ++ []) M1 := by
    rintro n b' bb M' rfl
    refine ⟨_, _, perm3 _ _ _ _, ⟨⟨_, ss, [(b', Arr1 (cn ++ [.int .i64 n]) {})], Ms, List.Perm.refl _, Or.inr ⟨b', by simp, rfl⟩, by simpa using l2⟩, hM.ints.app fun v hv => ⟨n, by simpa using hv⟩, by simpa using hM.strs⟩⟩
  refine WF.permM hp (WF.trim (WF.intro rfl (Nat.le_of_ble_eq_true rfl) ?_ (fun _ _ => rfl)))
  cases t <;> rcases l1 with ⟨rfl, rfl, rfl⟩ | ⟨bn, rfl, rfl⟩
  all_goals
    repeat' first
      | refine WC.seq ?_
      | refine WC.region ?_
      | refine WC.skip ?_
      | refine WC.cond_t rfl (by first | assumption | rfl) ?_
      | refine WC.cond_f rfl (by first | assumption | rfl) ?_
      | refine WO.nil ?_
      | refine WO.cons ?_
      | refine W1.mv rfl ?_
      | refine W1.nilck rfl ?_
      | refine W1.fa rfl ?_
      | refine W1.bldS rfl rfl rfl (fun bb => ?_)
      | refine Exists.intro _ (And.intro Res.nil ?_)
      | refine W1.ldS rfl .here rfl ?_
      | refine W1.appN (n := 1) rfl rfl (Src.row .here (Nat.le_of_ble_eq_true rfl)) (by decide) (by decide) (fun b' => ?_)
      | refine W1.app (n := 1) rfl rfl (Src.row .here (Nat.le_of_ble_eq_true rfl)) (by decide) (.there (.there .here)) (by simp) (by show (cn.length + 1) * 8 ≤ 35184372088832; omega) (fun b' => ?_)
      | refine W1.st rfl rfl rfl rfl (.there (.there .here)) (Nat.le_of_ble_eq_true rfl) ?_
    exact hfin _ _ _ _ rfl
end
theorem p94 : PutT ftb 94 .bool := by
  intro g v k hv
  simp only [Cell] at hv
  obtain ⟨⟨n, rfl⟩, hk⟩ := hv
  exact (put_bool n).le hk
section
attribute [local irreducible] W1 WO WC WD WF WV
theorem p13A {g : Gz} {x y z : Int} : PutA ftb g 13 [.agg [.int .i64 x, .int .i64 y, .int .i64 z]] 4 := by
  refine ⟨[.int .i64 3, .int .i64 x, .int .i64 y, .int .i64 z], [], by simp, by simp, fun v hv => ?_, by simp [StrL], fun b cn cs M hM hl1 hl2 => ?_⟩
  · simp only [List.mem_cons, List.mem_nil_iff, or_false] at hv
    rcases hv with rfl | rfl | rfl | rfl <;> exact ⟨_, rfl⟩
  refine WF.trim (WF.intro rfl (Nat.le_of_ble_eq_true rfl) ?_ (fun _ _ => rfl))
  repeat' first
    | refine W1.box (d := 3) rfl rfl (fun b3 => ?_)
    | refine W1.slcaAllO rfl .here (Nat.le_of_ble_eq_true rfl) ?_
    | (refine W1.callV rfl rfl (WV.func ((puts3E (fe := 8) rfl (fun _ _ => rfl) rfl (fun _ _ => rfl) hM hl1).mono fun v M' => ?_)); rintro ⟨M1, hM1, rfl⟩)
    | refine WC.seq ?_
    | refine WC.region ?_
    | refine WO.nil ?_
    | refine WO.cons ?_
    | refine W1.mv rfl ?_
    | refine Exists.intro _ (And.intro Res.nil ?_)
  exact ⟨M1, [_], List.Perm.refl _, by simpa using hM1⟩
end
theorem row3 {g : Gz} {vs : List V} {k : Nat} (h : Ax.Row g [.int, .int, .int] vs k) : 3 ≤ k ∧ ∃ a b c, vs = [.int .i64 a, .int .i64 b, .int .i64 c] := by
  simp only [Ax.Row, Cell] at h
  obtain ⟨_, _, k1, k2, rfl, ⟨⟨a, rfl⟩, h1⟩, ⟨_, _, k3, k4, rfl, ⟨⟨b, rfl⟩, h2⟩, ⟨_, _, k5, k6, rfl, ⟨⟨c, rfl⟩, h3⟩, rfl, h4⟩, h5⟩, h6⟩ := h
  exact ⟨by omega, a, b, c, rfl⟩
theorem p13 : PutR2 ftb 13 [.int, .int, .int] := by
  intro g vs k h
  obtain ⟨hk, a, b, c, rfl⟩ := row3 h
  exact p13A.le (by omega)
theorem p8 : PutT ftb 8 .int := putT_int rfl (fun _ _ => rfl)
theorem p9 : PutT ftb 9 .int := putT_int rfl (fun _ _ => rfl)
theorem p93 : PutT ftb 93 .str := putT_str rfl (fun _ _ => rfl)
theorem p20 : PutT ftb 20 (.sl [.int]) := putT_list1 (p := 49) (fe := 8) rfl (fun _ _ => rfl) rfl (fun _ _ => rfl) p8
theorem p25 : PutT ftb 25 (.sl [.sl [.int]]) := putT_list1 (p := 59) (fe := 20) rfl (fun _ _ => rfl) rfl (fun _ _ => rfl) p20
theorem p95 : PutR ftb 95 [.int, .int] := putG_ok (is := [⟨false, 1, 8⟩, ⟨false, 1, 8⟩]) rfl (fun _ _ => rfl) (.one p8 (.one p8 .nil))
theorem p85 : PutR2 ftb 85 tyHead := putG2_ok (is := [⟨false, 1, 93⟩, ⟨true, 3, 13⟩, ⟨false, 1, 8⟩, ⟨false, 1, 94⟩]) rfl (fun _ _ => rfl) (.one p93.two (.many (us := [.int, .int, .int]) rfl p13 (.one p8.two (.one p94.two .nil))))
theorem p67 : PutT2 ftb 67 (.sl tyHead) := putT2_listN (p := 84) (fe := 85) (e := 6) rfl (fun _ _ => rfl) rfl (fun _ _ => rfl) rfl p85
theorem p87 : PutR2 ftb 87 tyOrd := putG2_ok (is := [⟨false, 1, 93⟩, ⟨false, 1, 8⟩, ⟨true, 2, 95⟩, ⟨true, 2, 95⟩]) rfl (fun _ _ => rfl) (.one p93.two (.one p8.two (.many (us := [.int, .int]) rfl p95.two (.many (us := [.int, .int]) rfl p95.two .nil))))
theorem p68 : PutT2 ftb 68 (.sl tyOrd) := putT2_listN (p := 86) (fe := 87) (e := 6) rfl (fun _ _ => rfl) rfl (fun _ _ => rfl) rfl p87
theorem p37 : PutR2 ftb 37 tyStore := putG2_ok (is := [⟨true, 3, 13⟩, ⟨false, 1, 8⟩, ⟨false, 1, 67⟩, ⟨false, 1, 68⟩]) rfl (fun _ _ => rfl) (.many (us := [.int, .int, .int]) rfl p13 (.one p8.two (.one p67 (.one p68 .nil))))
theorem p4 {g : Gz} {vs : List V} {k : Nat} (hrow : Ax.Row g tyAnew vs k) : ∃ ns ss : List V, ns.length ≤ 2 * k ∧ ss.length ≤ 2 * k ∧ IntL ns ∧ StrL ss ∧
    ∀ b cn cs M, HpM b cn cs M → cn.length + 2 * k ≤ lim40 → cs.length + 2 * k ≤ lim40 → WF ftb g 4 [.agg vs, .ptr b 0] M fun _ M' => HpM b (cn ++ ns) (cs ++ ss) M' :=
  putAll2_ok (is := [⟨true, 6, 37⟩, ⟨false, 1, 8⟩, ⟨false, 1, 20⟩, ⟨true, 3, 13⟩]) rfl (fun _ _ => rfl) (.many (us := tyStore) rfl p37 (.one p8.two (.one p20.two (.many (us := [.int, .int, .int]) rfl p13 .nil)))) hrow
theorem w57 : WipeT ftb 57 .int := wipeT_int rfl (fun _ _ => rfl)
theorem w22 : WipeT ftb 22 (.sl [.int]) := wipeT_list (p := 56) (fe := 57) (e := 1) rfl (fun _ _ => rfl) rfl (fun _ _ => rfl) rfl w57.row
theorem w27 : WipeT ftb 27 (.sl [.sl [.int]]) := wipeT_list (p := 60) (fe := 22) (e := 1) rfl (fun _ _ => rfl) rfl (fun _ _ => rfl) rfl w22.row
end Go.Ax
end
section
namespace Go.Ax
open Go.Ax.Ir
attribute [local irreducible] W1 WO WC WD WF WV
structure InOk (g : Gz) (bx : Nat) (t : WxD) (sp : V) (np : Nat) (pl : Nat → Int) (n1 x y z : Int) : Prop where
  hX : g bx = some (.arr (t.cells ++ [.int .i64 n1, sp, .int .i64 x, .int .i64 y, .int .i64 z]) {})
  ok : WxOk g t
  hs : Slc g [] sp np 1 fun i _ => .int .i64 (pl i)
  hsc : sp.scalar = true
  hnp : np ≤ 2000000
  hz : TZ g
theorem perm_w1 (b5 b4 : Nat × BP) (A B : Mem) : (b5 :: b4 :: (A ++ B)).Perm (b4 :: (A ++ (b5 :: B))) :=
  (List.Perm.swap _ _ _).trans (List.Perm.cons b4 List.perm_middle.symm)
theorem perm_w2 (b4 b5 : Nat × BP) (A B : Mem) : (b4 :: (A ++ (b5 :: B))).Perm (b5 :: (B ++ (b4 :: A))) :=
  ((List.Perm.cons b4 List.perm_middle).trans (List.Perm.swap _ _ _)).trans (List.Perm.cons b5 (List.perm_append_comm (l₁ := b4 :: A) (l₂ := B)))
theorem perm_w3 (p q : Nat × BP) (A B M : Mem) : (p :: q :: (A ++ (B ++ M))).Perm ((p :: q :: B) ++ (A ++ M)) :=
  List.Perm.cons p (List.Perm.cons q (perm_sw A B M))
theorem perm_w4 (p q : Nat × BP) (A B M : Mem) : ((p :: q :: B) ++ (A ++ M)).Perm ((p :: q :: A) ++ (B ++ M)) :=
  List.Perm.cons p (List.Perm.cons q (perm_sw B A M))
theorem W1.isStW {ft : FT FnR} {g : Gz} (a : Nat) {x : Opd} {L : Env} {M : Mem} {K : Env → Mem → Prop} (h : W1 ft g ⟨none, .st 1 (.t a) x, none⟩ L M K) : W1 ft g ⟨none, .st 1 (.t a) x, none⟩ L M K := h
theorem f30 {g : Gz} {b4 b5 : Nat} {s1 s2 : V} {R1 R2 : Bks} {k1 k2 : Nat} (h1 : OwnC (.sl [.int]) s1 R1 k1) (h2 : OwnC (.sl [.int]) s2 R2 k2) : WF ftb g 30 [.ptr b4 0, .ptr b5 0] ((b5, Arr1 [s2] {}) :: (b4, Arr1 [s1] {}) :: (toM R1 ++ toM R2)) fun _ _ => True := by
  refine WF.intro rfl (Nat.le_of_ble_eq_true rfl) ?_ (fun _ _ => rfl)
  repeat' first
    | (refine W1.callV rfl rfl (WV.func (WF.permM (perm_w1 _ _ _ _) ((w22 g b4 0 [s1] s1 R1 k1 _ rfl h1).mono fun v M' => ?_))); rintro ⟨v', R', k', _, hp⟩)
    | (refine W1.permM (hp.trans (perm_w2 _ _ _ _)) (W1.callV rfl rfl (WV.func ((w22 g b5 0 [s2] s2 R2 k2 _ rfl h2).mono fun v M' hM => ?_))))
    | refine WC.seq ?_
    | refine WC.region ?_
    | refine WO.nil ?_
    | refine WO.cons ?_
    | refine Exists.intro _ (And.intro Res.nil ?_)
  all_goals trivial
set_option maxHeartbeats 1000000 in
theorem ag6 {g : Gz} {bx : Nat} {t : WxD} {sp : V} {np : Nat} {pl : Nat → Int} {n1 x y z : Int} (I : InOk g bx t sp np pl n1 x y z) : AgC ftb g 6 [.ptr bx 0] := by
  have l6 : rdAgg g true bx 0 6 = some (.agg t.cells) := by simp [rdAgg, rdG, I.hX, WxD.cells]
  have k6 : rdAgg g false bx 6 1 = some (.int .i64 n1) := by simp [rdAgg, I.hX, WxD.cells]
  have k7 : rdAgg g false bx 7 1 = some sp := by simp [rdAgg, I.hX, WxD.cells]
  have k8 : rdAgg g true bx 8 3 = some (.agg [.int .i64 x, .int .i64 y, .int .i64 z]) := by simp [rdAgg, rdG, I.hX, WxD.cells]
  intro b
  have l40 : lim40 = 1099511627776 := rfl
  have hlim : limit = 35184372088832 := rfl
  refine WF.intro rfl (Nat.le_of_ble_eq_true rfl) ?_
  repeat' first
    | refine W1.ldG rfl l6 ?_
    | (refine W1.callV rfl rfl (WV.func ((f7 I.ok).mono fun v M' => ?_)); rintro ⟨rfl, p, a, e, rfl, hv⟩)
    | refine W1.put (Q := []) (Mh := [(b, E2P)]) (k := 1) rfl (p8 g _ 1 cellInt) (HpM.new b) (by simp only [List.length_nil]; omega) (by simp only [List.length_nil]; omega) (fun v ns ss Mh' h1 h2 hM => ?_)
    | refine W1.put (Q := []) (k := 1) rfl (p8 g _ 1 cellInt) hM (by simp only [List.length_append, List.length_nil]; omega) (by simp only [List.length_append, List.length_nil]; omega) (fun v ns ss Mh' h1 h2 hM => ?_)
    | refine W1.put (Q := []) (k := 1) rfl (p9 g _ 1 cellInt) hM (by simp only [List.length_append, List.length_nil]; omega) (by simp only [List.length_append, List.length_nil]; omega) (fun v ns ss Mh' h1 h2 hM => ?_)
    | refine WC.ret ?_
    | refine WC.seq ?_
    | refine WC.region ?_
    | refine WO.nil ?_
    | refine WO.cons ?_
    | refine W1.mv rfl ?_
    | refine W1.fa rfl ?_
    | refine W1.ext rfl rfl ?_
    | refine Exists.intro _ (And.intro (Res.tmp rfl Res.nil) ?_)
  exact ⟨10, [], _, _, _, [], rfl, by decide, by simp, hM, by simp only [List.length_append, List.length_nil]; omega, by simp only [List.length_append, List.length_nil]; omega, nothing_ok rfl (fun _ _ => rfl)⟩
set_option maxHeartbeats 1000000 in
theorem ag11 {g : Gz} {bx : Nat} {t : WxD} {sp : V} {np : Nat} {pl : Nat → Int} {n1 x y z : Int} (I : InOk g bx t sp np pl n1 x y z) : AgC ftb g 11 [.ptr bx 0] := by
  have l6 : rdAgg g true bx 0 6 = some (.agg t.cells) := by simp [rdAgg, rdG, I.hX, WxD.cells]
  have k6 : rdAgg g false bx 6 1 = some (.int .i64 n1) := by simp [rdAgg, I.hX, WxD.cells]
  have k7 : rdAgg g false bx 7 1 = some sp := by simp [rdAgg, I.hX, WxD.cells]
  have k8 : rdAgg g true bx 8 3 = some (.agg [.int .i64 x, .int .i64 y, .int .i64 z]) := by simp [rdAgg, rdG, I.hX, WxD.cells]
  intro b
  have l40 : lim40 = 1099511627776 := rfl
  have hlim : limit = 35184372088832 := rfl
  refine WF.intro rfl (Nat.le_of_ble_eq_true rfl) ?_
  repeat' first
    | refine W1.ldG rfl l6 ?_
    | refine W1.ldG rfl k6 ?_
    | (refine W1.callV rfl rfl (WV.func ((f12 I.ok).mono fun v M' => ?_)); rintro ⟨rfl, _, e, rfl, qa, qb, qc, rfl⟩)
    | refine W1.alloc (d := 4) rfl (fun b4 => ?_)
    | refine W1.stAll (p := [.int .i64 qa, .int .i64 qb, .int .i64 qc]) rfl rfl rfl rfl rfl .here ?_
    | refine W1.ldAll rfl .here rfl ?_
    | refine W1.put (Q := [_]) (Mh := [(b, E2P)]) (k := 4) rfl p13A (HpM.new b) (by simp only [List.length_nil]; omega) (by simp only [List.length_nil]; omega) (fun v ns ss Mh' h1 h2 hM => ?_)
    | refine W1.put (Q := [_]) (k := 1) rfl (p9 g _ 1 cellInt) hM (by simp only [List.length_append, List.length_nil]; omega) (by simp only [List.length_append, List.length_nil]; omega) (fun v ns ss Mh' h1 h2 hM => ?_)
    | refine WC.ret ?_
    | refine WC.seq ?_
    | refine WC.region ?_
    | refine WO.nil ?_
    | refine WO.cons ?_
    | refine W1.mv rfl ?_
    | refine W1.fa rfl ?_
    | refine W1.ext rfl rfl ?_
    | refine Exists.intro _ (And.intro (Res.tmp rfl Res.nil) ?_)
  exact ⟨10, [], _, _, _, [_], rfl, by decide, List.perm_append_comm (l₁ := [_]), hM, by simp only [List.length_append, List.length_nil]; omega, by simp only [List.length_append, List.length_nil]; omega, nothing_ok rfl (fun _ _ => rfl)⟩
set_option maxHeartbeats 1000000 in
theorem ag14 {g : Gz} {bx : Nat} {t : WxD} {sp : V} {np : Nat} {pl : Nat → Int} {n1 x y z : Int} (I : InOk g bx t sp np pl n1 x y z) : AgC ftb g 14 [.ptr bx 0] := by
  have l6 : rdAgg g true bx 0 6 = some (.agg t.cells) := by simp [rdAgg, rdG, I.hX, WxD.cells]
  have k6 : rdAgg g false bx 6 1 = some (.int .i64 n1) := by simp [rdAgg, I.hX, WxD.cells]
  have k7 : rdAgg g false bx 7 1 = some sp := by simp [rdAgg, I.hX, WxD.cells]
  have k8 : rdAgg g true bx 8 3 = some (.agg [.int .i64 x, .int .i64 y, .int .i64 z]) := by simp [rdAgg, rdG, I.hX, WxD.cells]
  intro b
  have l40 : lim40 = 1099511627776 := rfl
  have hlim : limit = 35184372088832 := rfl
  refine WF.intro rfl (Nat.le_of_ble_eq_true rfl) ?_
  repeat' first
    | refine W1.ldG rfl l6 ?_
    | refine W1.ldG rfl k7 ?_
    | refine W1.ldG rfl k8 ?_
    | (refine W1.callV rfl rfl (WV.func ((f15 I.ok I.hs I.hsc I.hnp).mono fun v M' => ?_)); rintro ⟨rfl, _, e, rfl, qa, qb, qc, rfl⟩)
    | refine W1.alloc (d := 4) rfl (fun b4 => ?_)
    | refine W1.stAll (p := [.int .i64 qa, .int .i64 qb, .int .i64 qc]) rfl rfl rfl rfl rfl .here ?_
    | refine W1.ldAll rfl .here rfl ?_
    | refine W1.put (Q := [_]) (Mh := [(b, E2P)]) (k := 4) rfl p13A (HpM.new b) (by simp only [List.length_nil]; omega) (by simp only [List.length_nil]; omega) (fun v ns ss Mh' h1 h2 hM => ?_)
    | refine W1.put (Q := [_]) (k := 1) rfl (p9 g _ 1 cellInt) hM (by simp only [List.length_append, List.length_nil]; omega) (by simp only [List.length_append, List.length_nil]; omega) (fun v ns ss Mh' h1 h2 hM => ?_)
    | refine WC.ret ?_
    | refine WC.seq ?_
    | refine WC.region ?_
    | refine WO.nil ?_
    | refine WO.cons ?_
    | refine W1.mv rfl ?_
    | refine W1.fa rfl ?_
    | refine W1.ext rfl rfl ?_
    | refine Exists.intro _ (And.intro (Res.tmp rfl Res.nil) ?_)
  exact ⟨10, [], _, _, _, [_], rfl, by decide, List.perm_append_comm (l₁ := [_]), hM, by simp only [List.length_append, List.length_nil]; omega, by simp only [List.length_append, List.length_nil]; omega, nothing_ok rfl (fun _ _ => rfl)⟩
set_option maxHeartbeats 1000000 in
theorem ag16 {g : Gz} {bx : Nat} {t : WxD} {sp : V} {np : Nat} {pl : Nat → Int} {n1 x y z : Int} (I : InOk g bx t sp np pl n1 x y z) : AgC ftb g 16 [.ptr bx 0] := by
  have l6 : rdAgg g true bx 0 6 = some (.agg t.cells) := by simp [rdAgg, rdG, I.hX, WxD.cells]
  have k6 : rdAgg g false bx 6 1 = some (.int .i64 n1) := by simp [rdAgg, I.hX, WxD.cells]
  have k7 : rdAgg g false bx 7 1 = some sp := by simp [rdAgg, I.hX, WxD.cells]
  have k8 : rdAgg g true bx 8 3 = some (.agg [.int .i64 x, .int .i64 y, .int .i64 z]) := by simp [rdAgg, rdG, I.hX, WxD.cells]
  intro b
  have l40 : lim40 = 1099511627776 := rfl
  have hlim : limit = 35184372088832 := rfl
  refine WF.intro rfl (Nat.le_of_ble_eq_true rfl) ?_
  repeat' first
    | refine W1.ldG rfl l6 ?_
    | refine W1.ldG rfl k7 ?_
    | refine W1.ldG rfl k8 ?_
    | (refine W1.callV rfl rfl (WV.func ((f17 I.ok I.hs I.hsc I.hnp).mono fun v M' => ?_)); rintro ⟨rfl, a, e, rfl⟩)
    | refine W1.put (Q := []) (Mh := [(b, E2P)]) (k := 1) rfl (p8 g _ 1 cellInt) (HpM.new b) (by simp only [List.length_nil]; omega) (by simp only [List.length_nil]; omega) (fun v ns ss Mh' h1 h2 hM => ?_)
    | refine W1.put (Q := []) (k := 1) rfl (p9 g _ 1 cellInt) hM (by simp only [List.length_append, List.length_nil]; omega) (by simp only [List.length_append, List.length_nil]; omega) (fun v ns ss Mh' h1 h2 hM => ?_)
    | refine WC.ret ?_
    | refine WC.seq ?_
    | refine WC.region ?_
    | refine WO.nil ?_
    | refine WO.cons ?_
    | refine W1.mv rfl ?_
    | refine W1.fa rfl ?_
    | refine W1.ext rfl rfl ?_
    | refine Exists.intro _ (And.intro (Res.tmp rfl Res.nil) ?_)
  exact ⟨10, [], _, _, _, [], rfl, by decide, by simp, hM, by simp only [List.length_append, List.length_nil]; omega, by simp only [List.length_append, List.length_nil]; omega, nothing_ok rfl (fun _ _ => rfl)⟩
set_option maxHeartbeats 1000000 in
theorem ag18 {g : Gz} {bx : Nat} {t : WxD} {sp : V} {np : Nat} {pl : Nat → Int} {n1 x y z : Int} (I : InOk g bx t sp np pl n1 x y z) : AgC ftb g 18 [.ptr bx 0] := by
  have l6 : rdAgg g true bx 0 6 = some (.agg t.cells) := by simp [rdAgg, rdG, I.hX, WxD.cells]
  have k6 : rdAgg g false bx 6 1 = some (.int .i64 n1) := by simp [rdAgg, I.hX, WxD.cells]
  have k7 : rdAgg g false bx 7 1 = some sp := by simp [rdAgg, I.hX, WxD.cells]
  have k8 : rdAgg g true bx 8 3 = some (.agg [.int .i64 x, .int .i64 y, .int .i64 z]) := by simp [rdAgg, rdG, I.hX, WxD.cells]
  intro b
  have l40 : lim40 = 1099511627776 := rfl
  have hlim : limit = 35184372088832 := rfl
  refine WF.intro rfl (Nat.le_of_ble_eq_true rfl) ?_
  repeat' first
    | refine W1.ldG rfl l6 ?_
    | (refine W1.callV rfl rfl (WV.func ((f19 I.ok I.hz).mono fun v M' => ?_)); rintro ⟨s, R, k, _, e, rfl, ⟨qa, qb, qc, rfl⟩, ho, hk, rfl⟩)
    | refine W1.alloc (d := 4) rfl (fun b4 => ?_)
    | refine W1.alloc (d := 5) rfl (fun b5 => ?_)
    | refine W1.stAll (p := [.int .i64 qa, .int .i64 qb, .int .i64 qc]) rfl rfl rfl rfl rfl .here ?_
    | refine W1.st0 rfl rfl ho.scalar (.there .here) ?_
    | refine W1.ldAll rfl .here rfl ?_
    | refine W1.ldS rfl (.there .here) rfl ?_
    | refine W1.putO (pre := [_, _]) (R := R) rfl p20 ho (HpM.new b) (by simp only [List.length_nil]; omega) (by simp only [List.length_nil]; omega) (fun v ns ss Mh' h1 h2 hM => ?_)
    | refine W1.put (Q := _ :: _ :: toM R) (k := 4) rfl p13A hM (by simp only [List.length_append, List.length_nil]; omega) (by simp only [List.length_append, List.length_nil]; omega) (fun v ns ss Mh' h1 h2 hM => ?_)
    | refine W1.put (Q := _ :: _ :: toM R) (k := 1) rfl (p9 g _ 1 cellInt) hM (by simp only [List.length_append, List.length_nil]; omega) (by simp only [List.length_append, List.length_nil]; omega) (fun v ns ss Mh' h1 h2 hM => ?_)
    | refine WC.ret ?_
    | refine WC.seq ?_
    | refine WC.region ?_
    | refine WO.nil ?_
    | refine WO.cons ?_
    | refine W1.mv rfl ?_
    | refine W1.fa rfl ?_
    | refine W1.ext rfl rfl ?_
    | refine W1.mkfn rfl rfl ?_
    | refine Exists.intro _ (And.intro (Res.tmp rfl Res.nil) ?_)
  exact ⟨21, [.ptr b4 0], _, _, _, _ :: _ :: toM R, rfl, by decide, List.perm_append_comm (l₁ := _ :: _ :: toM R), hM, by simp only [List.length_append, List.length_nil]; omega, by simp only [List.length_append, List.length_nil]; omega, WF.less (List.sublist_cons_self _ _) (wipeC_ok (fn := 22) rfl (fun _ _ => rfl) w22 ho)⟩
set_option maxHeartbeats 1000000 in
theorem ag23 {g : Gz} {bx : Nat} {t : WxD} {sp : V} {np : Nat} {pl : Nat → Int} {n1 x y z : Int} (I : InOk g bx t sp np pl n1 x y z) : AgC ftb g 23 [.ptr bx 0] := by
  have l6 : rdAgg g true bx 0 6 = some (.agg t.cells) := by simp [rdAgg, rdG, I.hX, WxD.cells]
  have k6 : rdAgg g false bx 6 1 = some (.int .i64 n1) := by simp [rdAgg, I.hX, WxD.cells]
  have k7 : rdAgg g false bx 7 1 = some sp := by simp [rdAgg, I.hX, WxD.cells]
  have k8 : rdAgg g true bx 8 3 = some (.agg [.int .i64 x, .int .i64 y, .int .i64 z]) := by simp [rdAgg, rdG, I.hX, WxD.cells]
  intro b
  have l40 : lim40 = 1099511627776 := rfl
  have hlim : limit = 35184372088832 := rfl
  refine WF.intro rfl (Nat.le_of_ble_eq_true rfl) ?_
  repeat' first
    | refine W1.ldG rfl l6 ?_
    | (refine W1.callV rfl rfl (WV.func ((f24 I.ok I.hz).mono fun v M' => ?_)); rintro ⟨s, n, R, e, rfl, hR, hn, hv, rfl⟩; obtain ⟨k, ho, hk⟩ := hR.own hn)
    | refine W1.putO (pre := [_]) (R := R) rfl p25 ho (HpM.new b) (by simp only [List.length_nil]; omega) (by simp only [List.length_nil]; omega) (fun v ns ss Mh' h1 h2 hM => ?_)
    | refine W1.put (Q := _ :: toM R) (k := 1) rfl (p9 g _ 1 cellInt) hM (by simp only [List.length_append, List.length_nil]; omega) (by simp only [List.length_append, List.length_nil]; omega) (fun v ns ss Mh' h1 h2 hM => ?_)
    | refine W1.st0 rfl rfl ho.scalar .here ?_
    | refine W1.ldS rfl .here rfl ?_
    | refine WC.ret ?_
    | refine WC.seq ?_
    | refine WC.region ?_
    | refine WO.nil ?_
    | refine WO.cons ?_
    | refine W1.mv rfl ?_
    | refine W1.fa rfl ?_
    | refine W1.ext rfl rfl ?_
    | refine W1.mkfn rfl rfl ?_
    | refine W1.alloc rfl (fun bb => ?_)
    | refine Exists.intro _ (And.intro (Res.tmp rfl Res.nil) ?_)
  exact ⟨26, [.ptr _ 0], _, _, _, _ :: toM R, rfl, by decide, agc_perm, hM, by simp only [List.length_append, List.length_nil]; omega, by simp only [List.length_append, List.length_nil]; omega, wipeC_ok (fn := 27) rfl (fun _ _ => rfl) w27 ho⟩
set_option maxHeartbeats 1000000 in
theorem ag28 {g : Gz} {bx : Nat} {t : WxD} {sp : V} {np : Nat} {pl : Nat → Int} {n1 x y z : Int} (I : InOk g bx t sp np pl n1 x y z) : AgC ftb g 28 [.ptr bx 0] := by
  have l6 : rdAgg g true bx 0 6 = some (.agg t.cells) := by simp [rdAgg, rdG, I.hX, WxD.cells]
  have k6 : rdAgg g false bx 6 1 = some (.int .i64 n1) := by simp [rdAgg, I.hX, WxD.cells]
  have k7 : rdAgg g false bx 7 1 = some sp := by simp [rdAgg, I.hX, WxD.cells]
  have k8 : rdAgg g true bx 8 3 = some (.agg [.int .i64 x, .int .i64 y, .int .i64 z]) := by simp [rdAgg, rdG, I.hX, WxD.cells]
  intro b
  have l40 : lim40 = 1099511627776 := rfl
  have hlim : limit = 35184372088832 := rfl
  refine WF.intro rfl (Nat.le_of_ble_eq_true rfl) ?_
  repeat' first
    | refine W1.ldG rfl l6 ?_
    | (refine W1.callV rfl rfl (WV.func ((f29 I.ok I.hz).mono fun v M' => ?_)); rintro ⟨s1, R1, k1, s2, R2, k2, e, rfl, ho1, ho2, hk1, hk2, rfl⟩)
    | refine W1.alloc (d := 4) rfl (fun b4 => ?_)
    | refine W1.alloc (d := 5) rfl (fun b5 => ?_)
    | ((with_reducible refine W1.isStW 4 ?_); refine W1.st0 rfl rfl ho1.scalar (.there .here) ?_)
    | ((with_reducible refine W1.isStW 5 ?_); refine W1.st0 rfl rfl ho2.scalar .here ?_)
    | ((with_reducible refine W1.isDst 15 ?_); refine W1.ldS rfl (.there .here) rfl ?_)
    | ((with_reducible refine W1.isDst 18 ?_); refine W1.ldS rfl .here rfl ?_)
    | ((with_reducible refine W1.isDst 16 ?_); refine W1.permM (perm_w3 _ _ (toM R1) (toM R2) _) (W1.putO (pre := _ :: _ :: toM R2) (R := R1) rfl p20 ho1 (HpM.new b) (by simp only [List.length_nil]; omega) (by simp only [List.length_nil]; omega) (fun v ns ss Mh' h1 h2 hM => ?_)))
    | ((with_reducible refine W1.isDst 19 ?_); refine W1.permM (perm_w4 _ _ (toM R1) (toM R2) _) (W1.putO (pre := _ :: _ :: toM R1) (R := R2) rfl p20 ho2 hM (by simp only [List.length_append, List.length_nil]; omega) (by simp only [List.length_append, List.length_nil]; omega) (fun v ns ss Mh' h1 h2 hM => ?_)))
    | ((with_reducible refine W1.isDst 22 ?_); refine W1.permM (M' := (_ :: _ :: (toM R1 ++ toM R2)) ++ _) (by rw [List.cons_append, List.cons_append, List.cons_append, List.cons_append, List.append_assoc]) (W1.put (Q := _ :: _ :: (toM R1 ++ toM R2)) (k := 1) rfl (p9 g _ 1 cellInt) hM (by simp only [List.length_append, List.length_nil]; omega) (by simp only [List.length_append, List.length_nil]; omega) (fun v ns ss Mh' h1 h2 hM => ?_)))
    | refine WC.ret ?_
    | refine WC.seq ?_
    | refine WC.region ?_
    | refine WO.nil ?_
    | refine WO.cons ?_
    | refine W1.mv rfl ?_
    | refine W1.fa rfl ?_
    | refine W1.ext rfl rfl ?_
    | refine W1.mkfn rfl rfl ?_
    | refine Exists.intro _ (And.intro (Res.tmp rfl Res.nil) ?_)
  exact ⟨30, [.ptr b4 0, .ptr b5 0], _, _, _, _ :: _ :: (toM R1 ++ toM R2), rfl, by decide, List.perm_append_comm (l₁ := _ :: _ :: (toM R1 ++ toM R2)), hM, by simp only [List.length_append, List.length_nil]; omega, by simp only [List.length_append, List.length_nil]; omega, f30 ho1 ho2⟩
set_option maxHeartbeats 1000000 in
theorem ag31 {g : Gz} {bx : Nat} {t : WxD} {sp : V} {np : Nat} {pl : Nat → Int} {n1 x y z : Int} (I : InOk g bx t sp np pl n1 x y z) : AgC ftb g 31 [.ptr bx 0] := by
  have l6 : rdAgg g true bx 0 6 = some (.agg t.cells) := by simp [rdAgg, rdG, I.hX, WxD.cells]
  have k6 : rdAgg g false bx 6 1 = some (.int .i64 n1) := by simp [rdAgg, I.hX, WxD.cells]
  have k7 : rdAgg g false bx 7 1 = some sp := by simp [rdAgg, I.hX, WxD.cells]
  have k8 : rdAgg g true bx 8 3 = some (.agg [.int .i64 x, .int .i64 y, .int .i64 z]) := by simp [rdAgg, rdG, I.hX, WxD.cells]
  intro b
  have l40 : lim40 = 1099511627776 := rfl
  have hlim : limit = 35184372088832 := rfl
  refine WF.intro rfl (Nat.le_of_ble_eq_true rfl) ?_
  repeat' first
    | refine W1.ldG rfl l6 ?_
    | (refine W1.callV rfl rfl (WV.func ((f32 I.ok).mono fun v M' => ?_)); rintro ⟨rfl, a, c, e, rfl⟩)
    | refine W1.put (Q := []) (Mh := [(b, E2P)]) (k := 1) rfl (p8 g _ 1 cellInt) (HpM.new b) (by simp only [List.length_nil]; omega) (by simp only [List.length_nil]; omega) (fun v ns ss Mh' h1 h2 hM => ?_)
    | refine W1.put (Q := []) (k := 1) rfl (p8 g _ 1 cellInt) hM (by simp only [List.length_append, List.length_nil]; omega) (by simp only [List.length_append, List.length_nil]; omega) (fun v ns ss Mh' h1 h2 hM => ?_)
    | refine W1.put (Q := []) (k := 1) rfl (p9 g _ 1 cellInt) hM (by simp only [List.length_append, List.length_nil]; omega) (by simp only [List.length_append, List.length_nil]; omega) (fun v ns ss Mh' h1 h2 hM => ?_)
    | refine WC.ret ?_
    | refine WC.seq ?_
    | refine WC.region ?_
    | refine WO.nil ?_
    | refine WO.cons ?_
    | refine W1.mv rfl ?_
    | refine W1.fa rfl ?_
    | refine W1.ext rfl rfl ?_
    | refine Exists.intro _ (And.intro (Res.tmp rfl Res.nil) ?_)
  exact ⟨10, [], _, _, _, [], rfl, by decide, by simp, hM, by simp only [List.length_append, List.length_nil]; omega, by simp only [List.length_append, List.length_nil]; omega, nothing_ok rfl (fun _ _ => rfl)⟩
set_option maxHeartbeats 1000000 in
theorem ag33 {g : Gz} {bx : Nat} {t : WxD} {sp : V} {np : Nat} {pl : Nat → Int} {n1 x y z : Int} (I : InOk g bx t sp np pl n1 x y z) : AgC ftb g 33 [.ptr bx 0] := by
  have l6 : rdAgg g true bx 0 6 = some (.agg t.cells) := by simp [rdAgg, rdG, I.hX, WxD.cells]
  have k6 : rdAgg g false bx 6 1 = some (.int .i64 n1) := by simp [rdAgg, I.hX, WxD.cells]
  have k7 : rdAgg g false bx 7 1 = some sp := by simp [rdAgg, I.hX, WxD.cells]
  have k8 : rdAgg g true bx 8 3 = some (.agg [.int .i64 x, .int .i64 y, .int .i64 z]) := by simp [rdAgg, rdG, I.hX, WxD.cells]
  intro b
  have l40 : lim40 = 1099511627776 := rfl
  have hlim : limit = 35184372088832 := rfl
  refine WF.intro rfl (Nat.le_of_ble_eq_true rfl) ?_
  repeat' first
    | refine W1.ldG rfl l6 ?_
    | (refine W1.callV rfl rfl (WV.func ((f34 I.ok I.hz).mono fun v M' => ?_)); rintro ⟨rfl, a, e, rfl⟩)
    | refine W1.put (Q := []) (Mh := [(b, E2P)]) (k := 1) rfl (p8 g _ 1 cellInt) (HpM.new b) (by simp only [List.length_nil]; omega) (by simp only [List.length_nil]; omega) (fun v ns ss Mh' h1 h2 hM => ?_)
    | refine W1.put (Q := []) (k := 1) rfl (p9 g _ 1 cellInt) hM (by simp only [List.length_append, List.length_nil]; omega) (by simp only [List.length_append, List.length_nil]; omega) (fun v ns ss Mh' h1 h2 hM => ?_)
    | refine WC.ret ?_
    | refine WC.seq ?_
    | refine WC.region ?_
    | refine WO.nil ?_
    | refine WO.cons ?_
    | refine W1.mv rfl ?_
    | refine W1.fa rfl ?_
    | refine W1.ext rfl rfl ?_
    | refine Exists.intro _ (And.intro (Res.tmp rfl Res.nil) ?_)
  exact ⟨10, [], _, _, _, [], rfl, by decide, by simp, hM, by simp only [List.length_append, List.length_nil]; omega, by simp only [List.length_append, List.length_nil]; omega, nothing_ok rfl (fun _ _ => rfl)⟩
end Go.Ax
end
section
namespace Go.Ax
open Go.Ax.Ir
open Go.Ax.Kr
theorem tb1_all : ∀ i : Fin 64, (match tb1[i.val]?, zt[i.val]? with | some (.int .u8 n), some m => decide (n = (m : Int)) | _, _ => false) = true := by decide +kernel
theorem TZ.of {g : Gz} (h : TabG tbR g) : TZ g := ⟨tb1, h 1 (by decide), fun i hi => by
  have h := tb1_all ⟨i, hi⟩
  simp only at h
  split at h
  · next n m e1 e2 => exact ⟨m, by rw [e1, of_decide_eq_true h], e2⟩
  · cases h⟩
theorem TabG.lessG {tb : Nat → List V} {g g' : Gz} (hg : g.le g') (h : TabG tb g) : TabG tb g' := fun k hk => hg _ _ (h k hk)
noncomputable abbrev rft : FT FnR := rootFt tbl 5 35 36 tbR
theorem rplain : ∀ f args h x, rft.orc f args h = some x → rft.fn f = none := rootFt_plain rfl rfl
theorem lift3 {g : Gz} {f : Nat} {args : List V} {M : Mem} {K : V → Mem → Prop} (h : WF ftb g f args M K) : WF rft g f args M K := WF.lift rplain h
attribute [local irreducible] W1 WO WC WD WF WV
def ir3e : ICode := cS2 (cS2 (cS2 (cS2 (cS2 ir3.code))))
theorem root_end {g : Gz} (htg : TabG tbR g) {b3 b4 : Nat} {cn cs : List V} {M1 M2 : Mem} {L : Env} (h3 : HpM b3 cn cs M1) (h4 : HpM b4 cn cs M2) (ln : cn.length ≤ limit) (ls : cs.length ≤ limit) (hL : subL L [(3, .ptr b3 0), (4, .ptr b4 0), (5, .bool true)]) :
    WC rft g none ir3e L (M2 ++ M1) (retK g ir3.res fun v _ => v = .bool true) := by
  obtain ⟨sn, ss, Mn, Ms, hp, l1, l2⟩ := h3.ex
  obtain ⟨sn', ss', Mn', Ms', hp', l1', l2'⟩ := h4.ex
  obtain ⟨R1, rfl, c1, k1⟩ := l1.toM
  obtain ⟨R2, rfl, c2, k2⟩ := l2.toM
  obtain ⟨R1', rfl, c1', k1'⟩ := l1'.toM
  obtain ⟨R2', rfl, c2', k2'⟩ := l2'.toM
  have hP : (M2 ++ M1).Perm ((b4, Arr1 [sn', ss'] {}) :: (b3, Arr1 [sn, ss] {}) :: toM ((R1' ++ R2') ++ (R1 ++ R2))) := by
    refine (hp'.append hp).trans ?_
    rw [List.cons_append, toM_app, toM_app, toM_app]
    exact List.Perm.cons _ List.perm_middle
  refine WC.permM hP ?_
  refine WC.weak hL ?_
  repeat' first
    | refine W1.ldAll rfl .here rfl ?_
    | refine W1.ldAll rfl (.there .here) rfl ?_
    | (refine W1.callV rfl rfl (WV.func (WF.permM (List.perm_append_comm (l₁ := [_, _])) (WF.freezeL fun g' hg hR => ((WF.frame (M0 := []) (lift3 (f_same (ft := ftb) (sm := 35) rfl (fun _ _ => rfl) (k1 g' fun p hp => hR p (by simp [hp])) (k2 g' fun p hp => hR p (by simp [hp])) (k1' g' fun p hp => hR p (by simp [hp])) (k2' g' fun p hp => hR p (by simp [hp])) c1 c2 c1' c2' h3.ints h3.strs ln ls)) (List.Perm.refl _)).mono fun v M' => ?_)))); rintro ⟨_, rfl, rfl⟩)
    | refine W1.awake (by decide) htg ?_
    | refine WC.ret ?_
    | refine WC.seq ?_
    | refine WC.region ?_
    | refine WO.nil ?_
    | refine WO.cons ?_
    | refine W1.guard_y rfl (by first | assumption | rfl) ?_
    | refine W1.pick_t rfl (by first | assumption | rfl) rfl ?_
    | refine W1.mv rfl ?_
    | refine Exists.intro _ (And.intro (Res.tmp rfl Res.nil) ?_)
  rfl
set_option maxHeartbeats 1000000 in
theorem f3 {g : Gz} {vs : List V} {k : Nat} (hrow : Ax.Row g tyAnew vs k) (hk : k ≤ 1048576) (htg : TabG tbR g) (hg : GOk g) : WF rft g 3 [.agg vs] [] fun v _ => v = .bool true := by
  obtain ⟨v1, v2, k1, k2, rfl, r1, r2, hk12⟩ := hrow.split
  obtain ⟨t, rfl, ok⟩ := bridge r1 (by omega)
  obtain ⟨w1, ws, a1, b1, rfl, d1, r2, q1⟩ := r2.cons_inv
  obtain ⟨sp, ws, a2, b2, rfl, d0, r2, q2⟩ := r2.cons_inv
  obtain ⟨w2, ws, a3, b3, rfl, d2, r2, q3⟩ := r2.cons_inv
  obtain ⟨w3, ws, a4, b4, rfl, d3, r2, q4⟩ := r2.cons_inv
  obtain ⟨w4, ws, a5, b5, rfl, d4, r2, q5⟩ := r2.cons_inv
  obtain rfl := r2.nil_inv
  obtain ⟨np, pl, hpl, s2, s3⟩ := d0.ints
  obtain ⟨n1, rfl⟩ := d1.int_inv
  obtain ⟨n2, rfl⟩ := d2.int_inv
  obtain ⟨n3, rfl⟩ := d3.int_inv
  obtain ⟨n4, rfl⟩ := d4.int_inv
  have hnp : np ≤ 1048576 := by omega
  have l40 : lim40 = 1099511627776 := rfl
  have hlim : limit = 35184372088832 := rfl
  have hsc : (V.agg (t.cells ++ [.int .i64 n1, sp, .int .i64 n2, .int .i64 n3, .int .i64 n4])).cells.all V.scalar = true := by
    refine List.all_eq_true.2 fun v hv => ?_
    rcases List.mem_append.1 (show v ∈ t.cells ++ [.int .i64 n1, sp, .int .i64 n2, .int .i64 n3, .int .i64 n4] from hv) with h | h
    · exact List.all_eq_true.1 ok.sc6 v h
    · simp only [List.mem_cons, List.mem_nil_iff, or_false] at h
      rcases h with rfl | rfl | rfl | rfl | rfl
      · rfl
      · exact s2
      iterate 3 rfl
  refine WF.intro rfl (Nat.le_of_ble_eq_true rfl) ?_ (fun _ _ => rfl)
  refine WC.seq (WC.region (WO.cons (W1.box rfl hsc fun bx => WO.cons (W1.mv rfl (WO.nil ?_)))))
  refine WC.freeze .here fun hb => WC.withSat fun hp hs => ?_
  have s0 := hs.less (Gz.le_add hb)
  have hle := Gz.le_add (o := .arr (V.agg (t.cells ++ [.int .i64 n1, sp, .int .i64 n2, .int .i64 n3, .int .i64 n4])).cells {}) hb
  have hg' := hg.add (b := bx) hb (hrow.dom s0)
  have htg' := htg.lessG hle
  have hX := Gz.add_eq g bx (.arr (V.agg (t.cells ++ [.int .i64 n1, sp, .int .i64 n2, .int .i64 n3, .int .i64 n4])).cells {})
  have I : InOk _ bx t sp np pl n1 n2 n3 n4 := ⟨hX, ok.lessG hle, hpl.lessG hle, s2, by omega, (TZ.of htg).lessG hle⟩
  have l11 : rdAgg (g.add bx (.arr (V.agg (t.cells ++ [.int .i64 n1, sp, .int .i64 n2, .int .i64 n3, .int .i64 n4])).cells {})) true bx 0 11 = some (.agg (t.cells ++ [.int .i64 n1, sp, .int .i64 n2, .int .i64 n3, .int .i64 n4])) := by
    unfold rdAgg rdG; rw [hX]; rfl
  have hin : V.insD (fun c => ∃ p, (g.add bx (.arr (V.agg (t.cells ++ [.int .i64 n1, sp, .int .i64 n2, .int .i64 n3, .int .i64 n4])).cells {})) c = some p) [.ptr bx 0] := ⟨⟨_, hX⟩, trivial⟩
  obtain ⟨ns, ss, a1, a2, _, _, put⟩ := p4 (hrow.lessG hle)
  repeat' first
    | refine W1.ldG rfl l11 ?_
    | (refine W1.callV rfl rfl (WV.func (((lift3 (put _ [] [] _ (HpM.new _) (by simp only [List.length_nil]; omega) (by simp only [List.length_nil]; omega))).frame (List.Perm.swap _ _ _)).mono fun v M' => ?_)); rintro ⟨M1, hM1, rfl⟩)
    | (refine W1.callV rfl rfl (WV.func (((lift3 (put _ [] [] [(_, E2P)] (HpM.new _) (by simp only [List.length_nil]; omega) (by simp only [List.length_nil]; omega))).frame List.perm_append_comm).mono fun v M' => ?_)); rintro ⟨M2, hM2, rfl⟩)
    | refine W1.again (sm := 35) rfl (by decide) htg' hg' hin (ag6 I) ?_
    | refine W1.again (sm := 35) rfl (by decide) htg' hg' hin (ag11 I) ?_
    | refine W1.again (sm := 35) rfl (by decide) htg' hg' hin (ag14 I) ?_
    | refine W1.again (sm := 35) rfl (by decide) htg' hg' hin (ag16 I) ?_
    | refine W1.again (sm := 35) rfl (by decide) htg' hg' hin (ag18 I) ?_
    | refine W1.again (sm := 35) rfl (by decide) htg' hg' hin (ag23 I) ?_
    | refine W1.again (sm := 35) rfl (by decide) htg' hg' hin (ag28 I) ?_
    | refine W1.again (sm := 35) rfl (by decide) htg' hg' hin (ag31 I) ?_
    | refine W1.again (sm := 35) rfl (by decide) htg' hg' hin (ag33 I) ?_
    | refine WC.mono (root_end htg' hM1 hM2 ?_ ?_ ?_) (fun x L1 M1 h => ?_)
    | refine WC.seq ?_
    | refine WC.region ?_
    | refine WO.nil ?_
    | refine WO.cons ?_
    | refine W1.guard_y rfl (by first | assumption | rfl) ?_
    | refine W1.pick_t rfl (by first | assumption | rfl) rfl ?_
    | refine W1.mv rfl ?_
    | refine W1.mkfn rfl rfl ?_
    | refine W1.alloc rfl (fun bb => ?_)
  · simp only [List.length_append, List.length_nil]; omega
  · simp only [List.length_append, List.length_nil]; omega
  · repeat (first | exact subL.nil _ | refine subL.cons rfl ?_)
  · cases x with
    | normal => obtain ⟨vs, hr, hK⟩ := h; exact ⟨vs, fun τ hh hl hs => hr τ hh hl (hs.freeze .here), hK⟩
    | ret => obtain ⟨vs, hr, hK⟩ := h; exact ⟨vs, fun τ hh hl hs => hr τ hh hl (hs.freeze .here), hK⟩
    | _ => exact h
end Go.Ax
end
