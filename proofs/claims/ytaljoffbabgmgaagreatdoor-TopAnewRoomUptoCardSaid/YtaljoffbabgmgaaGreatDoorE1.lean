import Derived.Test.YtaljoffbabgmgaaGreatDoorA7
import Derived.Test.YtaljoffbabgmgaaGreatDoorB
set_option linter.unusedSectionVars false
set_option linter.unusedVariables false
set_option linter.unusedSimpArgs false
section
namespace Go.Ax
open Go.Ax.Ir
theorem f81 {g : Gz} {n lo hi : Int} {bl bh : Nat} {M M1 M2 : Mem} (h1 : At M bl (Arr1 [.int .i64 lo] {}) M1) (h2 : At M bh (Arr1 [.int .i64 hi] {}) M2) :
    WF tbl g 81 [.int .i64 n, .ptr bl 0, .ptr bh 0] M fun v M' => M' = M ∧ ∃ t, v = .bool t ∧ (t = false → lo ≤ n ∧ n ≤ hi) := by
  refine WF.intro rfl (Nat.le_of_ble_eq_true rfl) ?_
  repeat' first
    | refine WC.seq ?_
    | refine WC.region ?_
    | refine WC.ret ?_
    | refine WO.nil ?_
    | refine WO.cons ?_
    | refine W1.mv rfl ?_
    | refine W1.ldS rfl h1 rfl ?_
    | refine W1.ldS rfl h2 rfl ?_
    | refine W1.lss rfl rfl ?_
    | refine W1.gtr rfl rfl ?_
    | refine W1.guard_y rfl (by assumption) ?_
    | refine W1.guard_n rfl (by assumption) ?_
    | refine W1.guard rfl (fun hc => ?_) (fun hc => ?_)
    | refine W1.pick_t rfl (by assumption) rfl ?_
    | refine W1.pick_f rfl (by assumption) rfl ?_
    | refine Exists.intro _ (And.intro (Res.tmp rfl Res.nil) ?_)
  · exact ⟨rfl, _, rfl, fun h => by simp at h hc; omega⟩
  · exact ⟨rfl, _, rfl, fun h => by cases h⟩
theorem f100 {g : Gz} {M : Mem} {s fv : V} {n : Nat} {el : Nat → Nat → V} {R : Nat → Bool → Prop} (hs : Slc g M s n 1 el) (hn : n ≤ 1000000000000)
    (hf : ∀ i, i < n → WV tbl g fv [el i 0] M fun v M' => M' = M ∧ ∃ t, v = .bool t ∧ R i t) :
    WF tbl g 100 [s, fv] M fun v M' => M' = M ∧ ∃ k : Int, v = .int .i64 k ∧ (k < 0 → ∀ i, i < n → R i false) := by
  refine WF.intro rfl (Nat.le_of_ble_eq_true rfl) ?_
  refine WC.seq (WC.region (WO.cons (W1.mv rfl (WO.nil ?_))))
  refine WC.seq (WC.seq (WC.region (WO.cons (W1.mv rfl (WO.cons (W1.lenSlc rfl hs (WO.cons (W1.mv rfl (WO.nil ?_)))))))))
  refine WC.block ?_
  refine WC.loopE (ι := Int) (fun i => (n - i).toNat) (fun i => [(0, s), (1, fv), (7, .int .i64 n), (8, .int .i64 i)]) (fun i M' => 0 ≤ i ∧ i ≤ n ∧ M' = M ∧ ∀ j : Nat, (j : Int) < i → R j false) ?_ 0 _ _
    (by repeat (first | exact subL.nil _ | refine subL.cons rfl ?_)) ⟨by omega, by omega, rfl, fun j h => by omega⟩
  rintro i M' ⟨h0, h1, rfl, hR⟩
  repeat' first
    | refine WC.seq ?_
    | refine WC.block ?_
    | refine WC.region ?_
    | refine WC.skip ?_
    | refine WC.exit ?_
    | refine WC.ret ?_
    | refine WC.cond rfl (fun hc => ?_) (fun hc => ?_)
    | refine WO.nil ?_
    | refine WO.cons ?_
    | refine W1.mv rfl ?_
    | refine W1.lss rfl rfl ?_
    | refine W1.add rfl rfl (by omega) (by omega) ?_
    | refine W1.iaSlc rfl rfl hs (by omega) (by have := of_decide_eq_true ‹decide _ = true›; omega) (fun b o hrd => ?_)
    | refine W1.ldR rfl (hrd 0 (by omega)) ?_
    | (refine W1.callV rfl rfl ((hf i.toNat (by have := of_decide_eq_true ‹decide _ = true›; omega)).mono fun v M' => ?_); rintro ⟨rfl, t, rfl, ht⟩)
    | refine Exists.intro _ (And.intro (Res.tmp rfl Res.nil) ?_)
  · exact ⟨rfl, i, rfl, fun h => by omega⟩
  · have hlt := of_decide_eq_true ‹decide (i < (n : Int)) = true›
    refine ⟨i + 1, by omega, by repeat (first | exact subL.nil _ | refine subL.cons rfl ?_), by omega, by omega, rfl, fun j hj => ?_⟩
    by_cases hji : (j : Int) < i
    · exact hR j hji
    · have : j = i.toNat := by omega
      subst this
      exact hc ▸ ht
  · have hge := of_decide_eq_false hc
    exact ⟨rfl, -1, rfl, fun _ j hj => hR j (by omega)⟩
theorem f80 {g : Gz} {M : Mem} {s fv : V} {n : Nat} {el : Nat → Nat → V} {R : Nat → Bool → Prop} (hs : Slc g M s n 1 el) (hn : n ≤ 1000000000000)
    (hf : ∀ i, i < n → WV tbl g fv [el i 0] M fun v M' => M' = M ∧ ∃ t, v = .bool t ∧ R i t) :
    WF tbl g 80 [s, fv] M fun v M' => M' = M ∧ ∃ t, v = .bool t ∧ (t = false → ∀ i, i < n → R i false) := by
  refine WF.intro rfl (Nat.le_of_ble_eq_true rfl) ?_
  repeat' first
    | refine WC.seq ?_
    | refine WC.region ?_
    | refine WC.ret ?_
    | refine WO.nil ?_
    | refine WO.cons ?_
    | refine W1.mv rfl ?_
    | refine W1.geq rfl rfl ?_
    | (refine W1.callV rfl rfl (WV.func ((f100 hs hn hf).mono fun v M' => ?_)); rintro ⟨rfl, k, rfl, hk⟩)
    | refine Exists.intro _ (And.intro (Res.tmp rfl Res.nil) ?_)
  exact ⟨rfl, _, rfl, fun h => hk (by simp at h; omega)⟩
theorem f42 {g : Gz} {M : Mem} {s : V} {n : Nat} {lo hi : Int} {num : Nat → Int} (hs : Slc g M s n 1 fun i _ => .int .i64 (num i)) (hn : n ≤ 1000000000000) :
    WF tbl g 42 [.int .i64 lo, .int .i64 hi, s] M fun v M' => M' = M ∧ ∃ t, v = .bool t ∧ (t = false → ∀ i, i < n → lo ≤ num i ∧ num i ≤ hi) := by
  refine WF.intro rfl (Nat.le_of_ble_eq_true rfl) ?_
  repeat' first
    | refine WC.seq ?_
    | refine WC.region ?_
    | refine WC.drop ((List.sublist_cons_self _ _).trans (List.sublist_cons_self _ _)) (WC.ret ?_)
    | refine WO.nil ?_
    | refine WO.cons ?_
    | refine W1.mv rfl ?_
    | refine W1.box rfl rfl (fun b => ?_)
    | refine W1.mkfn rfl rfl ?_
    | (refine W1.callV rfl rfl (WV.func ((f80 hs.cons.cons hn (R := fun i t => t = false → lo ≤ num i ∧ num i ≤ hi) (fun i hi => WV.func (f81 (.there .here) .here))).mono fun v M' => ?_)); rintro ⟨rfl, t, rfl, ht⟩)
    | refine Exists.intro _ (And.intro (Res.tmp rfl Res.nil) ?_)
  exact ⟨rfl, _, rfl, fun h i hi => ht h i hi rfl⟩
end Go.Ax
end
section
namespace Go.Ax
open Go.Ax.Ir
attribute [local irreducible] W1 WO WC WD WF WV
theorem f47 {g : Gz} {s : List UInt8} : WF tbl g 47 [.str s] [] fun v M' => M' = [] ∧ ∃ t, v = .bool t := by
  refine WF.intro rfl (Nat.le_of_ble_eq_true rfl) ?_
  refine WC.seq (WC.region (WO.cons (W1.mv rfl (WO.nil ?_))))
  refine WC.seq (WC.seq (WC.region (WO.cons (W1.mv rfl (WO.cons (W1.rng rfl fun b => WO.nil ?_))))))
  refine WC.block ?_
  refine WC.loopE (ι := Nat) (fun i => s.length - i) (fun _ => [(0, .str s), (7, .ptr b 0)]) (fun i M' => M' = [(b, IterAt s i)]) ?_ 0 _ _
    (by repeat (first | exact subL.nil _ | refine subL.cons rfl ?_)) rfl
  rintro i M' rfl
  repeat' first
    | refine WC.seq ?_
    | refine WC.block ?_
    | refine WC.region ?_
    | refine WC.skip ?_
    | refine WC.exit ?_
    | refine WC.drop (List.nil_sublist _) (WC.ret ?_)
    | refine WC.cond_t rfl (by first | assumption | rfl) ?_
    | refine WC.cond_f rfl (by first | assumption | rfl) ?_
    | refine WC.cond rfl (fun hc => ?_) (fun hc => ?_)
    | refine WO.nil ?_
    | refine WO.cons ?_
    | refine W1.mv rfl ?_
    | refine W1.nxt rfl (fun w => .here) (fun hlt c w hw => ?_) (fun hge => ?_)
    | refine W1.ext rfl rfl ?_
    | refine W1.lss rfl rfl ?_
    | refine W1.gtr rfl rfl ?_
    | refine W1.leq rfl rfl ?_
    | refine W1.eql rfl rfl ?_
    | refine W1.neq rfl rfl ?_
    | refine W1.not rfl ?_
    | refine W1.lenS rfl ?_
    | refine W1.cmpS rfl rfl (by simp) rfl (fun t _ => ?_)
    | refine W1.guard_u rfl ?_
    | refine W1.guard_y rfl (by first | assumption | rfl) ?_
    | refine W1.guard_n rfl (by first | assumption | rfl) ?_
    | refine W1.guard rfl (fun hc => ?_) (fun hc => ?_)
    | refine W1.pick_t rfl (by first | assumption | rfl) rfl ?_
    | refine W1.pick_f rfl (by first | assumption | rfl) rfl ?_
    | refine Exists.intro _ (And.intro (Res.tmp rfl Res.nil) ?_)
  all_goals first
    | exact ⟨rfl, _, rfl⟩
    | exact ⟨w, by omega, by repeat (first | exact subL.nil _ | refine subL.cons rfl ?_), rfl⟩
end Go.Ax
end
section
namespace Go.Ax
open Go.Ax.Ir
attribute [local irreducible] W1 WO WC WD WF WV
theorem f104 {g : Gz} {M : Mem} {a : Int} : WF tbl g 104 [.int .i64 a] M fun v M' => M' = M ∧ v = .bool false := by
  refine WF.intro rfl (Nat.le_of_ble_eq_true rfl) ?_
  repeat' first
    | refine WC.ret ?_
    | refine WC.seq ?_
    | refine WC.region ?_
    | refine WO.nil ?_
    | refine WO.cons ?_
    | refine W1.mv rfl ?_
    | refine W1.neq rfl rfl ?_
    | refine Exists.intro _ (And.intro (Res.tmp rfl Res.nil) ?_)
  exact ⟨rfl, by simp [packR]⟩
theorem f92 {g : Gz} {M : Mem} {a b : Int} : WF tbl g 92 [.int .i64 a, .int .i64 b] M fun v M' => M' = M ∧ ∃ k : Int, v = .int .i64 k := by
  refine WF.intro rfl (Nat.le_of_ble_eq_true rfl) ?_
  repeat' first
    | refine WC.ret ?_
    | (refine W1.callV rfl rfl (WV.func (f104.mono fun v M' => ?_)); rintro ⟨rfl, rfl⟩)
    | refine WC.seq ?_
    | refine WC.region ?_
    | refine WC.skip ?_
    | refine WC.cond_f rfl (by first | assumption | rfl) ?_
    | refine WC.cond rfl (fun hc => ?_) (fun hc => ?_)
    | refine WO.nil ?_
    | refine WO.cons ?_
    | refine W1.mv rfl ?_
    | refine W1.lss rfl rfl ?_
    | refine W1.gtr rfl rfl ?_
    | refine Exists.intro _ (And.intro (Res.tmp rfl Res.nil) ?_)
  all_goals exact ⟨rfl, _, rfl⟩
theorem f70 {g : Gz} {M : Mem} {s s2 : V} {n m : Nat} {num num2 : Nat → Int} (hs : Slc g M s n 1 fun i _ => .int .i64 (num i)) (hs2 : Slc g M s2 m 1 fun i _ => .int .i64 (num2 i)) (hn : n ≤ 1000000000000) :
    WF tbl g 70 [s, s2] M fun v M' => M' = M ∧ ∃ k : Int, v = .int .i64 k := by
  refine WF.intro rfl (Nat.le_of_ble_eq_true rfl) ?_
  refine WC.seq (WC.region (WO.cons (W1.mv rfl (WO.nil ?_))))
  refine WC.seq (WC.seq (WC.region (WO.cons (W1.mv rfl (WO.cons (W1.lenSlc rfl hs (WO.cons (W1.mv rfl (WO.nil ?_)))))))))
  refine WC.block ?_
  refine WC.loopE (ι := Int) (fun i => (n - i).toNat) (fun i => [(0, s), (1, s2), (9, s), (10, .int .i64 n), (11, .int .i64 i)]) (fun i M' => 0 ≤ i ∧ i ≤ n ∧ M' = M) ?_ 0 _ _
    (by repeat (first | exact subL.nil _ | refine subL.cons rfl ?_)) ⟨by omega, by omega, rfl⟩
  rintro i M' ⟨h0, h1, rfl⟩
  repeat' first
    | refine W1.iaSlc rfl rfl hs (by omega) (by have := of_decide_eq_true ‹decide _ = true›; omega) (fun b o hrd => ?_)
    | refine W1.iaSlc rfl rfl hs2 (by omega) (by have := of_decide_eq_false ‹decide ((m : Int) ≤ i) = false›; omega) (fun b o hrd => ?_)
    | refine W1.ldR rfl (hrd 0 (by omega)) ?_
    | refine W1.lenSlc rfl hs ?_
    | refine W1.lenSlc rfl hs2 ?_
    | (refine W1.callV rfl rfl (WV.func (f92.mono fun v M' => ?_)); rintro ⟨rfl, k, rfl⟩)
    | refine WC.ret ?_
    | refine WC.seq ?_
    | refine WC.block ?_
    | refine WC.region ?_
    | refine WC.skip ?_
    | refine WC.exit ?_
    | refine WC.cond rfl (fun hc => ?_) (fun hc => ?_)
    | refine WO.nil ?_
    | refine WO.cons ?_
    | refine W1.mv rfl ?_
    | refine W1.lss rfl rfl ?_
    | refine W1.geq rfl rfl ?_
    | refine W1.neq rfl rfl ?_
    | refine Exists.intro _ (And.intro (Res.tmp rfl Res.nil) ?_)
    | refine W1.add rfl rfl (by omega) (by omega) ?_
  all_goals try exact ⟨rfl, _, rfl⟩
  have hlt := of_decide_eq_true ‹decide (i < (n : Int)) = true›
  exact ⟨i + 1, by omega, by repeat (first | exact subL.nil _ | refine subL.cons rfl ?_), by omega, by omega, rfl⟩
theorem f94 {g : Gz} {M : Mem} {a : Int} : WF tbl g 94 [.int .u64 a] M fun v M' => M' = M ∧ ∃ k : Int, v = .int .i64 k := by
  refine WF.intro rfl (Nat.le_of_ble_eq_true rfl) ?_
  repeat' first
    | refine WC.ret ?_
    | refine WC.seq ?_
    | refine WC.region ?_
    | refine WO.nil ?_
    | refine WO.cons ?_
    | refine W1.mv rfl ?_
    | refine Exists.intro _ (And.intro (Res.tmp rfl Res.nil) ?_)
    | refine W1.shrU rfl rfl (by decide) (fun z => ?_)
    | refine W1.andU rfl rfl (fun z => ?_)
    | refine W1.addU rfl rfl (fun z => ?_)
    | refine W1.convU rfl ?_
  all_goals exact ⟨rfl, _, rfl⟩
theorem f72 {g : Gz} {M : Mem} {a : Int} : WF tbl g 72 [.int .u64 a] M fun v M' => M' = M ∧ ∃ k : Int, v = .int .i64 k := by
  refine WF.intro rfl (Nat.le_of_ble_eq_true rfl) ?_
  repeat' first
    | refine WC.ret ?_
    | (refine W1.callV rfl rfl (WV.func (f94.mono fun v M' => ?_)); rintro ⟨rfl, k, rfl⟩)
    | refine WC.seq ?_
    | refine WC.region ?_
    | refine WC.skip ?_
    | refine WC.cond_f rfl (by first | assumption | rfl) ?_
    | refine WO.nil ?_
    | refine WO.cons ?_
    | refine W1.mv rfl ?_
    | refine Exists.intro _ (And.intro (Res.tmp rfl Res.nil) ?_)
  all_goals exact ⟨rfl, _, rfl⟩
end Go.Ax
end
section
namespace Go.Ax
open Go.Ax.Ir
attribute [local irreducible] W1 WO WC WD WF WV
theorem f43 {g : Gz} {M : Mem} {s fv : V} {n : Nat} {most : Int} {num : Nat → Int} {R : Nat → Int → Prop} (hs : Slc g M s n 1 fun i _ => .int .i64 (num i)) (hn : n ≤ 1000000000000)
    (hf : ∀ i, i < n → (n : Int) ≤ most → WV tbl g fv [.int .i64 i, .int .i64 (num i)] M fun v M' => M' = M ∧ ∃ e, v = .int .i64 e ∧ R i e) :
    WF tbl g 43 [s, .int .i64 most, fv] M fun v M' => M' = M ∧ ∃ a e, v = .tup [.int .i64 a, .int .i64 e] ∧ (e = 0 → (n : Int) ≤ most ∧ ∀ i, i < n → R i 0) := by
  refine WF.intro rfl (Nat.le_of_ble_eq_true rfl) ?_
  repeat' first
    | refine W1.lenSlc rfl hs ?_
    | (refine WC.forR (n := n) [2, 15, 16] (fun _ (_ : Unit) => []) (fun i _ M' => M' = M ∧ ∀ j, j < i → R j 0) () hn rfl (fun _ _ => rfl) (fun _ _ => rfl) (fun _ _ => rfl) (fun _ _ => rfl) ⟨rfl, rfl⟩ (subL.nil _) ⟨rfl, fun j h => absurd h (Nat.not_lt_zero _)⟩ ?_ ?_ <;> first | rintro i a M' hi ⟨rfl, hR⟩ | rintro a M' ⟨rfl, hR⟩)
    | refine W1.iaSlc rfl rfl hs (by omega) (by omega) (fun b o hrd => ?_)
    | refine W1.ldR rfl (hrd 0 (by omega)) ?_
    | (refine W1.callV rfl rfl ((hf i hi (by have := of_decide_eq_false ‹decide (most < (n : Int)) = false›; omega)).mono fun v M' => ?_); rintro ⟨rfl, e, rfl, he⟩)
    | refine WC.ret ?_
    | refine WC.seq ?_
    | refine WC.block ?_
    | refine WC.region ?_
    | refine WC.skip ?_
    | refine WC.cond rfl (fun hc => ?_) (fun hc => ?_)
    | refine WO.nil ?_
    | refine WO.cons ?_
    | refine W1.mv rfl ?_
    | refine W1.gtr rfl rfl ?_
    | refine W1.neq rfl rfl ?_
    | refine Exists.intro _ (And.intro (Res.tmp rfl (Res.tmp rfl Res.nil)) ?_)
  · exact ⟨rfl, _, _, rfl, fun h => by cases h⟩
  · exact ⟨rfl, _, _, rfl, fun h => absurd h (by simpa using ‹(!decide (e = 0)) = true›)⟩
  · have h0 : e = 0 := by simpa using ‹(!decide (e = 0)) = false›
    refine ⟨(), _, [], rfl, by repeat (first | exact subL.nil _ | refine subL.cons rfl ?_), List.Perm.refl _, rfl, fun j hj => ?_⟩
    by_cases hji : j < i
    · exact hR j hji
    · obtain rfl : j = i := by omega
      exact h0 ▸ he
  · exact ⟨rfl, _, _, rfl, fun _ => ⟨by have := of_decide_eq_false ‹decide (most < (n : Int)) = false›; omega, hR⟩⟩
end Go.Ax
end
section
namespace Go.Ax
open Go.Ax.Ir
theorem WV.less {ft : FT FnR} {g : Gz} {f : V} {args : List V} {M M' : Mem} {K : V → Mem → Prop} (hs : M'.Sublist M) (h : WV ft g f args M' K) : WV ft g f args M K := by
  intro hh hsat
  obtain ⟨n, v, h', M1, h1, h2, h3, h4⟩ := h hh (hsat.sub hs)
  exact ⟨n, v, h', M1, h1, h2, ⟨h3.n, fun b hb hn => h3.keep b hb fun p hp => hn p (hs.subset hp), fun p hp => by
    rcases h3.from_ p hp with ⟨p0, q1, q2⟩ | q1
    · exact Or.inl ⟨p0, hs.subset q1, q2⟩
    · exact Or.inr q1⟩, h4⟩
theorem splAll {Z p : List V} (h : p.length = Z.length) : splice Z 0 p = p := by simp [splice, h]
theorem W1.stAll {ft : FT FnR} {g : Gz} {L : Env} {M : Mem} {K : Env → Mem → Prop} {a x : Opd} {b e : Nat} {Z p : List V} {M' : Mem} (ha : lkO L a = some (.ptr b 0)) (hx : lkO L x = some (.agg p)) (hn : p.length = e) (hz : Z.length = e) (hsc : p.all V.scalar = true) (hu : Up M b (Arr1 Z {}) (Arr1 p {}) M') (h : K L M') : W1 ft g ⟨none, .st e a x, none⟩ L M K :=
  W1.st ha hx hn hsc (by rw [show (V.agg p).cells = p from rfl, splAll (hn.trans hz.symm)]; exact hu) (by rw [hz]; omega) h
attribute [local irreducible] W1 WO WC WD WF WV
theorem f50 {g : Gz} {M : Mem} {s fv : V} {n : Nat} {most : Int} {row : Nat → List V} {R : Nat → Int → Prop} (hs : SlcR g M s n 2 row) (hn : n ≤ 1000000000000) (hsc : ∀ i, i < n → (row i).all V.scalar = true)
    (hf : ∀ i, i < n → (n : Int) ≤ most → WV tbl g fv [.int .i64 i, .agg (row i)] M fun v M' => M' = M ∧ ∃ e, v = .int .i64 e ∧ R i e) :
    WF tbl g 50 [s, .int .i64 most, fv] M fun v M' => M' = M ∧ ∃ a e, v = .tup [.int .i64 a, .int .i64 e] ∧ (e = 0 → (n : Int) ≤ most ∧ ∀ i, i < n → R i 0) := by
  refine WF.intro rfl (Nat.le_of_ble_eq_true rfl) ?_
  repeat' first
    | refine W1.lenSlc rfl hs.1 ?_
    | (refine WC.forR (n := n) [2, 15, 16] (fun _ (_ : Unit) => []) (fun i _ M' => M' = M ∧ ∀ j, j < i → R j 0) () hn rfl (fun _ _ => rfl) (fun _ _ => rfl) (fun _ _ => rfl) (fun _ _ => rfl) ⟨rfl, rfl⟩ (subL.nil _) ⟨rfl, fun j h => absurd h (Nat.not_lt_zero _)⟩ ?_ ?_ <;> first | rintro i a M' hi ⟨rfl, hR⟩ | rintro a M' ⟨rfl, hR⟩)
    | refine W1.iaRow rfl rfl hs (by omega) (by omega) (fun b o hrd => ?_)
    | refine W1.ldV (vs := row i) rfl (hs.2.2 i hi) hrd ?_
    | refine W1.stAll rfl rfl (hs.2.2 i hi) rfl (hsc i hi) .here ?_
    | refine W1.ldAll rfl .here (hs.2.2 i hi) ?_
    | (refine W1.callV rfl rfl (WV.less (List.sublist_cons_self _ _) ((hf i hi (by have := of_decide_eq_false ‹decide (most < (n : Int)) = false›; omega)).mono fun v M' => ?_)); rintro ⟨rfl, e, rfl, he⟩)
    | refine WC.ret ?_
    | refine WC.seq ?_
    | refine WC.block ?_
    | refine WC.region ?_
    | refine WC.skip ?_
    | refine WC.cond rfl (fun hc => ?_) (fun hc => ?_)
    | refine WO.nil ?_
    | refine WO.cons ?_
    | refine W1.mv rfl ?_
    | refine W1.gtr rfl rfl ?_
    | refine W1.neq rfl rfl ?_
    | refine W1.alloc rfl (fun bb => ?_)
    | refine Exists.intro _ (And.intro (Res.tmp rfl (Res.tmp rfl Res.nil)) ?_)
  · exact ⟨rfl, _, _, rfl, fun h => by cases h⟩
  · exact ⟨rfl, _, _, rfl, fun h => absurd h (by simpa using ‹(!decide (e = 0)) = true›)⟩
  · have h0 : e = 0 := by simpa using ‹(!decide (e = 0)) = false›
    refine ⟨(), _, [], rfl, by repeat (first | exact subL.nil _ | refine subL.cons rfl ?_), List.Perm.refl _, rfl, fun j hj => ?_⟩
    by_cases hji : j < i
    · exact hR j hji
    · obtain rfl : j = i := by omega
      exact h0 ▸ he
  · exact ⟨rfl, _, _, rfl, fun _ => ⟨by have := of_decide_eq_false ‹decide (most < (n : Int)) = false›; omega, hR⟩⟩
theorem f45 {g : Gz} {M : Mem} {s fv : V} {n : Nat} {most : Int} {row : Nat → List V} {R : Nat → Int → Prop} (hs : SlcR g M s n 4 row) (hn : n ≤ 1000000000000) (hsc : ∀ i, i < n → (row i).all V.scalar = true)
    (hf : ∀ i, i < n → (n : Int) ≤ most → WV tbl g fv [.int .i64 i, .agg (row i)] M fun v M' => M' = M ∧ ∃ e, v = .int .i64 e ∧ R i e) :
    WF tbl g 45 [s, .int .i64 most, fv] M fun v M' => M' = M ∧ ∃ a e, v = .tup [.int .i64 a, .int .i64 e] ∧ (e = 0 → (n : Int) ≤ most ∧ ∀ i, i < n → R i 0) := by
  refine WF.intro rfl (Nat.le_of_ble_eq_true rfl) ?_
  repeat' first
    | refine W1.lenSlc rfl hs.1 ?_
    | (refine WC.forR (n := n) [2, 15, 16] (fun _ (_ : Unit) => []) (fun i _ M' => M' = M ∧ ∀ j, j < i → R j 0) () hn rfl (fun _ _ => rfl) (fun _ _ => rfl) (fun _ _ => rfl) (fun _ _ => rfl) ⟨rfl, rfl⟩ (subL.nil _) ⟨rfl, fun j h => absurd h (Nat.not_lt_zero _)⟩ ?_ ?_ <;> first | rintro i a M' hi ⟨rfl, hR⟩ | rintro a M' ⟨rfl, hR⟩)
    | refine W1.iaRow rfl rfl hs (by omega) (by omega) (fun b o hrd => ?_)
    | refine W1.ldV (vs := row i) rfl (hs.2.2 i hi) hrd ?_
    | refine W1.stAll rfl rfl (hs.2.2 i hi) rfl (hsc i hi) .here ?_
    | refine W1.ldAll rfl .here (hs.2.2 i hi) ?_
    | (refine W1.callV rfl rfl (WV.less (List.sublist_cons_self _ _) ((hf i hi (by have := of_decide_eq_false ‹decide (most < (n : Int)) = false›; omega)).mono fun v M' => ?_)); rintro ⟨rfl, e, rfl, he⟩)
    | refine WC.ret ?_
    | refine WC.seq ?_
    | refine WC.block ?_
    | refine WC.region ?_
    | refine WC.skip ?_
    | refine WC.cond rfl (fun hc => ?_) (fun hc => ?_)
    | refine WO.nil ?_
    | refine WO.cons ?_
    | refine W1.mv rfl ?_
    | refine W1.gtr rfl rfl ?_
    | refine W1.neq rfl rfl ?_
    | refine W1.alloc rfl (fun bb => ?_)
    | refine Exists.intro _ (And.intro (Res.tmp rfl (Res.tmp rfl Res.nil)) ?_)
  · exact ⟨rfl, _, _, rfl, fun h => by cases h⟩
  · exact ⟨rfl, _, _, rfl, fun h => absurd h (by simpa using ‹(!decide (e = 0)) = true›)⟩
  · have h0 : e = 0 := by simpa using ‹(!decide (e = 0)) = false›
    refine ⟨(), _, [], rfl, by repeat (first | exact subL.nil _ | refine subL.cons rfl ?_), List.Perm.refl _, rfl, fun j hj => ?_⟩
    by_cases hji : j < i
    · exact hR j hji
    · obtain rfl : j = i := by omega
      exact h0 ▸ he
  · exact ⟨rfl, _, _, rfl, fun _ => ⟨by have := of_decide_eq_false ‹decide (most < (n : Int)) = false›; omega, hR⟩⟩
theorem f52 {g : Gz} {M : Mem} {s fv : V} {n : Nat} {most : Int} {row : Nat → List V} {R : Nat → Int → Prop} (hs : SlcR g M s n 6 row) (hn : n ≤ 1000000000000) (hsc : ∀ i, i < n → (row i).all V.scalar = true)
    (hf : ∀ i, i < n → (n : Int) ≤ most → WV tbl g fv [.int .i64 i, .agg (row i)] M fun v M' => M' = M ∧ ∃ e, v = .int .i64 e ∧ R i e) :
    WF tbl g 52 [s, .int .i64 most, fv] M fun v M' => M' = M ∧ ∃ a e, v = .tup [.int .i64 a, .int .i64 e] ∧ (e = 0 → (n : Int) ≤ most ∧ ∀ i, i < n → R i 0) := by
  refine WF.intro rfl (Nat.le_of_ble_eq_true rfl) ?_
  repeat' first
    | refine W1.lenSlc rfl hs.1 ?_
    | (refine WC.forR (n := n) [2, 15, 16] (fun _ (_ : Unit) => []) (fun i _ M' => M' = M ∧ ∀ j, j < i → R j 0) () hn rfl (fun _ _ => rfl) (fun _ _ => rfl) (fun _ _ => rfl) (fun _ _ => rfl) ⟨rfl, rfl⟩ (subL.nil _) ⟨rfl, fun j h => absurd h (Nat.not_lt_zero _)⟩ ?_ ?_ <;> first | rintro i a M' hi ⟨rfl, hR⟩ | rintro a M' ⟨rfl, hR⟩)
    | refine W1.iaRow rfl rfl hs (by omega) (by omega) (fun b o hrd => ?_)
    | refine W1.ldV (vs := row i) rfl (hs.2.2 i hi) hrd ?_
    | refine W1.stAll rfl rfl (hs.2.2 i hi) rfl (hsc i hi) .here ?_
    | refine W1.ldAll rfl .here (hs.2.2 i hi) ?_
    | (refine W1.callV rfl rfl (WV.less (List.sublist_cons_self _ _) ((hf i hi (by have := of_decide_eq_false ‹decide (most < (n : Int)) = false›; omega)).mono fun v M' => ?_)); rintro ⟨rfl, e, rfl, he⟩)
    | refine WC.ret ?_
    | refine WC.seq ?_
    | refine WC.block ?_
    | refine WC.region ?_
    | refine WC.skip ?_
    | refine WC.cond rfl (fun hc => ?_) (fun hc => ?_)
    | refine WO.nil ?_
    | refine WO.cons ?_
    | refine W1.mv rfl ?_
    | refine W1.gtr rfl rfl ?_
    | refine W1.neq rfl rfl ?_
    | refine W1.alloc rfl (fun bb => ?_)
    | refine Exists.intro _ (And.intro (Res.tmp rfl (Res.tmp rfl Res.nil)) ?_)
  · exact ⟨rfl, _, _, rfl, fun h => by cases h⟩
  · exact ⟨rfl, _, _, rfl, fun h => absurd h (by simpa using ‹(!decide (e = 0)) = true›)⟩
  · have h0 : e = 0 := by simpa using ‹(!decide (e = 0)) = false›
    refine ⟨(), _, [], rfl, by repeat (first | exact subL.nil _ | refine subL.cons rfl ?_), List.Perm.refl _, rfl, fun j hj => ?_⟩
    by_cases hji : j < i
    · exact hR j hji
    · obtain rfl : j = i := by omega
      exact h0 ▸ he
  · exact ⟨rfl, _, _, rfl, fun _ => ⟨by have := of_decide_eq_false ‹decide (most < (n : Int)) = false›; omega, hR⟩⟩
theorem f83 {g : Gz} {M : Mem} {s fv : V} {n : Nat} {row : Nat → List V} (hs : SlcR g M s n 4 row) (hn : n ≤ 1000000000000)
    (hf : ∀ i, i < n → WV tbl g fv [.agg (row i)] M fun v M' => M' = M ∧ ∃ t, v = .bool t) :
    WF tbl g 83 [s, fv] M fun v M' => M' = M ∧ ∃ k : Int, v = .int .i64 k := by
  refine WF.intro rfl (Nat.le_of_ble_eq_true rfl) ?_
  repeat' first
    | refine W1.lenSlc rfl hs.1 ?_
    | (refine WC.forR (n := n) [0, 1, 6, 7] (fun _ (_ : Unit) => []) (fun i _ M' => M' = M) () hn rfl (fun _ _ => rfl) (fun _ _ => rfl) (fun _ _ => rfl) (fun _ _ => rfl) ⟨rfl, rfl⟩ (subL.nil _) rfl ?_ ?_ <;> first | rintro i a M' hi rfl | rintro a M' rfl)
    | refine W1.iaRow rfl rfl hs (by omega) (by omega) (fun b o hrd => ?_)
    | refine W1.ldV (vs := row i) rfl (hs.2.2 i hi) hrd ?_
    | (refine W1.callV rfl rfl ((hf i hi).mono fun v M' => ?_); rintro ⟨rfl, e, rfl⟩)
    | refine WC.ret ?_
    | refine WC.seq ?_
    | refine WC.block ?_
    | refine WC.region ?_
    | refine WC.skip ?_
    | refine WC.cond rfl (fun hc => ?_) (fun hc => ?_)
    | refine WO.nil ?_
    | refine WO.cons ?_
    | refine W1.mv rfl ?_
    | refine Exists.intro _ (And.intro (Res.tmp rfl Res.nil) ?_)
  · exact ⟨rfl, _, rfl⟩
  · exact ⟨(), _, [], rfl, by repeat (first | exact subL.nil _ | refine subL.cons rfl ?_), List.Perm.refl _, rfl⟩
  · exact ⟨rfl, _, rfl⟩
theorem f48 {g : Gz} {M : Mem} {s fv : V} {n : Nat} {row : Nat → List V} (hs : SlcR g M s n 4 row) (hn : n ≤ 1000000000000)
    (hf : ∀ i, i < n → WV tbl g fv [.agg (row i)] M fun v M' => M' = M ∧ ∃ t, v = .bool t) :
    WF tbl g 48 [s, fv] M fun v M' => M' = M ∧ ∃ t, v = .bool t := by
  refine WF.intro rfl (Nat.le_of_ble_eq_true rfl) ?_
  repeat' first
    | (refine W1.callV rfl rfl (WV.func ((f83 hs hn hf).mono fun v M' => ?_)); rintro ⟨rfl, k, rfl⟩)
    | refine WC.ret ?_
    | refine WC.seq ?_
    | refine WC.region ?_
    | refine WO.nil ?_
    | refine WO.cons ?_
    | refine W1.mv rfl ?_
    | refine W1.geq rfl rfl ?_
    | refine Exists.intro _ (And.intro (Res.tmp rfl Res.nil) ?_)
  exact ⟨rfl, _, rfl⟩
theorem f84 {g : Gz} {M : Mem} {s fv : V} {n : Nat} {row : Nat → List V} (hs : SlcR g M s n 6 row) (hn : n ≤ 1000000000000)
    (hf : ∀ i, i < n → WV tbl g fv [.agg (row i)] M fun v M' => M' = M ∧ ∃ t, v = .bool t) :
    WF tbl g 84 [s, fv] M fun v M' => M' = M ∧ ∃ k : Int, v = .int .i64 k := by
  refine WF.intro rfl (Nat.le_of_ble_eq_true rfl) ?_
  repeat' first
    | refine W1.lenSlc rfl hs.1 ?_
    | (refine WC.forR (n := n) [0, 1, 6, 7] (fun _ (_ : Unit) => []) (fun i _ M' => M' = M) () hn rfl (fun _ _ => rfl) (fun _ _ => rfl) (fun _ _ => rfl) (fun _ _ => rfl) ⟨rfl, rfl⟩ (subL.nil _) rfl ?_ ?_ <;> first | rintro i a M' hi rfl | rintro a M' rfl)
    | refine W1.iaRow rfl rfl hs (by omega) (by omega) (fun b o hrd => ?_)
    | refine W1.ldV (vs := row i) rfl (hs.2.2 i hi) hrd ?_
    | (refine W1.callV rfl rfl ((hf i hi).mono fun v M' => ?_); rintro ⟨rfl, e, rfl⟩)
    | refine WC.ret ?_
    | refine WC.seq ?_
    | refine WC.block ?_
    | refine WC.region ?_
    | refine WC.skip ?_
    | refine WC.cond rfl (fun hc => ?_) (fun hc => ?_)
    | refine WO.nil ?_
    | refine WO.cons ?_
    | refine W1.mv rfl ?_
    | refine Exists.intro _ (And.intro (Res.tmp rfl Res.nil) ?_)
  · exact ⟨rfl, _, rfl⟩
  · exact ⟨(), _, [], rfl, by repeat (first | exact subL.nil _ | refine subL.cons rfl ?_), List.Perm.refl _, rfl⟩
  · exact ⟨rfl, _, rfl⟩
theorem f54 {g : Gz} {M : Mem} {s fv : V} {n : Nat} {row : Nat → List V} (hs : SlcR g M s n 6 row) (hn : n ≤ 1000000000000)
    (hf : ∀ i, i < n → WV tbl g fv [.agg (row i)] M fun v M' => M' = M ∧ ∃ t, v = .bool t) :
    WF tbl g 54 [s, fv] M fun v M' => M' = M ∧ ∃ t, v = .bool t := by
  refine WF.intro rfl (Nat.le_of_ble_eq_true rfl) ?_
  repeat' first
    | (refine W1.callV rfl rfl (WV.func ((f84 hs hn hf).mono fun v M' => ?_)); rintro ⟨rfl, k, rfl⟩)
    | refine WC.ret ?_
    | refine WC.seq ?_
    | refine WC.region ?_
    | refine WO.nil ?_
    | refine WO.cons ?_
    | refine W1.mv rfl ?_
    | refine W1.geq rfl rfl ?_
    | refine Exists.intro _ (And.intro (Res.tmp rfl Res.nil) ?_)
  exact ⟨rfl, _, rfl⟩
end Go.Ax
end
section
namespace Go.Ax
open Go.Ax.Ir
structure HsD where
  lo : Int
  hi : Int
  st : Int
  sH : V
  sP : V
  sF : V
  sB : V
  nH : Nat
  nP : Nat
  nF : Nat
  nB : Nat
  hold : Nat → Int
  bill : Nat → Int
  place : Nat → List V
  fig : Nat → List V
  nW : Nat → Nat
  warm : Nat → Nat → List V
def HsD.cells (t : HsD) : List V := [.int .i64 t.lo, .int .i64 t.hi, .int .i64 t.st, t.sH, t.sP, t.sF, t.sB]
structure HsOk (g : Gz) (t : HsD) : Prop where
  hH : Slc g [] t.sH t.nH 1 fun i _ => .int .i64 (t.hold i)
  hP : SlcR g [] t.sP t.nP 4 t.place
  hF : SlcR g [] t.sF t.nF 6 t.fig
  hB : Slc g [] t.sB t.nB 1 fun i _ => .int .i64 (t.bill i)
  nH : t.nH ≤ 1000000000
  nP : t.nP ≤ 1000000000
  nF : t.nF ≤ 1000000000
  nB : t.nB ≤ 1000000000
  cH : t.sH.scalar = true
  cP : t.sP.scalar = true
  cF : t.sF.scalar = true
  cB : t.sB.scalar = true
  prow : ∀ i, i < t.nP → ∃ nm d w j, t.place i = [.str nm, .bool d, w, .int .i64 j] ∧ w.scalar = true ∧ SlcR g [] w (t.nW i) 2 (t.warm i) ∧ t.nW i ≤ 1000000000
  wrow : ∀ i j, i < t.nP → j < t.nW i → ∃ a b, t.warm i j = [.int .i64 a, .int .i64 b]
  frow : ∀ i, i < t.nF → ∃ nm a b c d e, t.fig i = [.str nm, .int .i64 a, .int .i64 b, .int .i64 c, .int .i64 d, .int .i64 e]
theorem HsOk.lessG {g g' : Gz} (hg : g.le g') {t : HsD} (h : HsOk g t) : HsOk g' t :=
  ⟨h.hH.lessG hg, h.hP.lessG hg, h.hF.lessG hg, h.hB.lessG hg, h.nH, h.nP, h.nF, h.nB, h.cH, h.cP, h.cF, h.cB, fun i hi => by
    obtain ⟨nm, a, b, c, h1, h2, h3, h4⟩ := h.prow i hi
    exact ⟨nm, a, b, c, h1, h2, h3.lessG hg, h4⟩, h.wrow, h.frow⟩
theorem HsOk.sc7 {g : Gz} {t : HsD} (h : HsOk g t) : (V.agg t.cells).cells.all V.scalar = true := by
  simp [V.cells, HsD.cells, h.cH, h.cP, h.cF, h.cB]; exact ⟨rfl, rfl, rfl⟩
structure HsVal (t : HsD) : Prop where
  st : 0 ≤ t.st ∧ t.st ≤ 3
  nH : t.nH ≤ 4
  nP : t.nP ≤ 5
  nF : t.nF ≤ 5
  nB : t.nB ≤ 3
attribute [local irreducible] W1 WO WC WD WF WV
theorem f42one {g : Gz} {M M1 : Mem} {b : Nat} {lo hi x : Int} (h : At M b (Arr1 [.int .i64 x] {}) M1) :
    WF tbl g 42 [.int .i64 lo, .int .i64 hi, .slice b 0 1 (some 1) 1] M fun v M' => M' = M ∧ ∃ t, v = .bool t ∧ (t = false → lo ≤ x ∧ x ≤ hi) :=
  (f42 (num := fun _ => x) (Slc.row h (by simp) (fun j hj k hk => by
    obtain rfl : j = 0 := by omega
    obtain rfl : k = 0 := by omega
    rfl)) (by omega)).mono fun v M' ⟨h1, t, h2, h3⟩ => ⟨h1, t, h2, fun ht => h3 ht 0 (by omega)⟩
theorem f42two {g : Gz} {M M1 : Mem} {b : Nat} {lo hi x y : Int} (h : At M b (Arr1 [.int .i64 x, .int .i64 y] {}) M1) :
    WF tbl g 42 [.int .i64 lo, .int .i64 hi, .slice b 0 2 (some 2) 1] M fun v M' => M' = M ∧ ∃ t, v = .bool t ∧ (t = false → (lo ≤ x ∧ x ≤ hi) ∧ lo ≤ y ∧ y ≤ hi) :=
  (f42 (num := fun j => if j = 0 then x else y) (Slc.row h (by simp) (fun j hj k hk => by
    obtain rfl : k = 0 := by omega
    rcases j with _ | _ | j
    · rfl
    · rfl
    · omega)) (by omega)).mono fun v M' ⟨h1, t, h2, h3⟩ => ⟨h1, t, h2, fun ht => ⟨h3 ht 0 (by omega), h3 ht 1 (by omega)⟩⟩
theorem f41 {g : Gz} {M : Mem} {a b lo hi : Int} : WF tbl g 41 [.agg [.int .i64 a, .int .i64 b], .int .i64 lo, .int .i64 hi] M fun v M' => M' = M ∧ ∃ e, v = .int .i64 e := by
  refine WF.trimS (WF.intro rfl (Nat.le_of_ble_eq_true rfl) ?_)
  repeat' first
    | (refine W1.callV rfl rfl (WV.func ((f42two .here).mono fun v M' => ?_)); rintro ⟨rfl, tt, rfl, ht⟩)
    | refine WC.ret ?_
    | refine WC.seq ?_
    | refine WC.block ?_
    | refine WC.region ?_
    | refine WC.skip ?_
    | refine WC.cond rfl (fun hc => ?_) (fun hc => ?_)
    | refine WO.nil ?_
    | refine WO.cons ?_
    | refine W1.mv rfl ?_
    | refine W1.fa rfl ?_
    | refine W1.gtr rfl rfl ?_
    | refine W1.bldS rfl rfl rfl (fun bb => ?_)
    | refine W1.box rfl rfl (fun bb => ?_)
    | refine Exists.intro _ (And.intro (Res.tmp rfl Res.nil) ?_)
    | refine W1.ldS rfl .here rfl ?_
    | refine W1.ldS rfl (.there .here) rfl ?_
  all_goals exact ⟨by repeat (first | exact Suf.refl | apply Suf.cons), _, rfl⟩
theorem f51 {g : Gz} {M : Mem} {i a b : Int} : WF tbl g 51 [.int .i64 i, .agg [.int .i64 a, .int .i64 b]] M fun v M' => M' = M ∧ ∃ e, v = .int .i64 e := by
  refine WF.trimS (WF.intro rfl (Nat.le_of_ble_eq_true rfl) ?_)
  repeat' first
    | (refine W1.callV rfl rfl (WV.func (f41.mono fun v M' => ?_)); rintro ⟨rfl, e, rfl⟩)
    | refine W1.ldAll rfl .here rfl ?_
    | refine WC.ret ?_
    | refine WC.seq ?_
    | refine WC.region ?_
    | refine WO.nil ?_
    | refine WO.cons ?_
    | refine W1.mv rfl ?_
    | refine W1.box rfl rfl (fun bb => ?_)
    | refine Exists.intro _ (And.intro (Res.tmp rfl Res.nil) ?_)
  exact ⟨by repeat (first | exact Suf.refl | apply Suf.cons), _, rfl⟩
theorem f44 {g : Gz} {M : Mem} {lo hi : Int} : WF tbl g 44 [.int .i64 lo, .int .i64 hi] M fun v M' => ∃ b2 b3, v = .func 82 [] [.ptr b2 0, .ptr b3 0] ∧ M' = (b3, Arr1 [.int .i64 hi] {}) :: (b2, Arr1 [.int .i64 lo] {}) :: M := by
  refine WF.intro rfl (Nat.le_of_ble_eq_true rfl) ?_
  repeat' first
    | refine WC.ret ?_
    | refine WC.seq ?_
    | refine WC.region ?_
    | refine WO.nil ?_
    | refine WO.cons ?_
    | refine W1.mv rfl ?_
    | refine W1.mkfn rfl rfl ?_
    | refine W1.box rfl rfl (fun bb => ?_)
    | refine Exists.intro _ (And.intro (Res.tmp rfl Res.nil) ?_)
  exact ⟨_, _, rfl, rfl⟩
theorem f82 {g : Gz} {M M1 M2 : Mem} {i n lo hi : Int} {b2 b3 : Nat} (h2 : At M b2 (Arr1 [.int .i64 lo] {}) M1) (h3 : At M b3 (Arr1 [.int .i64 hi] {}) M2) :
    WF tbl g 82 [.int .i64 i, .int .i64 n, .ptr b2 0, .ptr b3 0] M fun v M' => M' = M ∧ ∃ e, v = .int .i64 e := by
  refine WF.trimS (WF.intro rfl (Nat.le_of_ble_eq_true rfl) ?_)
  repeat' first
    | (refine W1.callV rfl rfl (WV.func ((f42one .here).mono fun v M' => ?_)); rintro ⟨rfl, tt, rfl, ht⟩)
    | refine W1.ldS rfl h2 rfl ?_
    | refine W1.ldS rfl h3 rfl ?_
    | refine WC.ret ?_
    | refine WC.seq ?_
    | refine WC.region ?_
    | refine WC.skip ?_
    | refine WC.cond rfl (fun hc => ?_) (fun hc => ?_)
    | refine WO.nil ?_
    | refine WO.cons ?_
    | refine W1.mv rfl ?_
    | refine W1.bldS rfl rfl rfl (fun bb => ?_)
    | refine Exists.intro _ (And.intro (Res.tmp rfl Res.nil) ?_)
  all_goals exact ⟨by repeat (first | exact Suf.refl | apply Suf.cons), _, rfl⟩
theorem f49 {g : Gz} {M M1 : Mem} {nm nm2 : List UInt8} {a b c : V} {r : List V} {bp : Nat} (ha : a.scalar = true) (hb : b.scalar = true) (hc : c.scalar = true) (h : At M bp (Arr1 (.str nm2 :: r) {}) M1) :
    WF tbl g 49 [.agg [.str nm, a, b, c], .ptr bp 0] M fun v M' => M' = M ∧ ∃ t, v = .bool t := by
  refine WF.trimS (WF.intro rfl (Nat.le_of_ble_eq_true rfl) ?_)
  repeat' first
    | refine W1.box rfl (by simp [V.cells, ha, hb, hc]; rfl) (fun b => ?_)
    | refine W1.binStr rfl rfl rfl ?_
    | refine WC.ret ?_
    | refine WC.seq ?_
    | refine WC.region ?_
    | refine WO.nil ?_
    | refine WO.cons ?_
    | refine W1.mv rfl ?_
    | refine W1.fa rfl ?_
    | refine Exists.intro _ (And.intro (Res.tmp rfl Res.nil) ?_)
    | refine W1.ldS rfl .here rfl ?_
    | refine W1.ldS rfl (.there h) rfl ?_
  exact ⟨by repeat (first | exact Suf.refl | apply Suf.cons), _, rfl⟩
theorem f55 {g : Gz} {M M1 : Mem} {nm nm2 : List UInt8} {a b c d e : Int} {r : List V} {bp : Nat} (h : At M bp (Arr1 (.str nm2 :: r) {}) M1) :
    WF tbl g 55 [.agg [.str nm, .int .i64 a, .int .i64 b, .int .i64 c, .int .i64 d, .int .i64 e], .ptr bp 0] M fun v M' => M' = M ∧ ∃ t, v = .bool t := by
  refine WF.trimS (WF.intro rfl (Nat.le_of_ble_eq_true rfl) ?_)
  repeat' first
    | refine W1.binStr rfl rfl rfl ?_
    | refine WC.ret ?_
    | refine WC.seq ?_
    | refine WC.region ?_
    | refine WO.nil ?_
    | refine WO.cons ?_
    | refine W1.mv rfl ?_
    | refine W1.fa rfl ?_
    | refine W1.box rfl rfl (fun bb => ?_)
    | refine Exists.intro _ (And.intro (Res.tmp rfl Res.nil) ?_)
    | refine W1.ldS rfl .here rfl ?_
    | refine W1.ldS rfl (.there h) rfl ?_
  exact ⟨by repeat (first | exact Suf.refl | apply Suf.cons), _, rfl⟩
end Go.Ax
end
section
namespace Go.Ax
open Go.Ax.Ir
attribute [local irreducible] W1 WO WC WD WF WV
set_option maxHeartbeats 1000000 in
theorem f46 {g : Gz} {M M1 : Mem} {t : HsD} {b1 i : Nat} (ok : HsOk g t) (hi : i < t.nP) (h1 : At M b1 (Arr1 t.cells {}) M1) :
    WF tbl g 46 [.int .i64 i, .agg (t.place i), .ptr b1 0] M fun v M' => M' = M ∧ ∃ e, v = .int .i64 e := by
  obtain ⟨nm, d, w, j, hr, hw, hws, hnw⟩ := ok.prow i hi
  have hnp := ok.nP
  have h49 : ∀ (bp : Nat) (M M1 : Mem) r nm2, At M bp (Arr1 (.str nm2 :: r) {}) M1 → ∀ k, k < t.nP → WV tbl g (.func 49 [] [.ptr bp 0]) [.agg (t.place k)] M fun v M' => M' = M ∧ ∃ t, v = .bool t := by
    intro bp M M1 r nm2 h k hk
    obtain ⟨_, _, _, _, e, h2, _⟩ := ok.prow k hk
    rw [e]; exact WV.func (f49 rfl h2 rfl h)
  have h51 : ∀ (M : Mem) k, k < t.nW i → WV tbl g (.func 51 [] []) [.int .i64 k, .agg (t.warm i k)] M fun v M' => M' = M ∧ ∃ e, v = .int .i64 e ∧ True := by
    intro M k hk
    obtain ⟨a, b, e⟩ := ok.wrow i k hi hk
    rw [e]; exact WV.func (f51.mono fun v M' ⟨h1, e, h2⟩ => ⟨h1, e, h2, trivial⟩)
  have hwsc : ∀ k, k < t.nW i → (t.warm i k).all V.scalar = true := by
    intro k hk; obtain ⟨a, b, e⟩ := ok.wrow i k hi hk; rw [e]; rfl
  rw [hr]
  refine WF.trimS (WF.intro rfl (Nat.le_of_ble_eq_true rfl) ?_)
  repeat' first
    | refine W1.box rfl (by simp [V.cells, hw]; exact ⟨rfl, rfl, rfl⟩) (fun b4 => ?_)
    | (refine W1.callP rfl f47 (fun v hv => ?_); obtain ⟨tn, rfl⟩ := hv)
    | refine W1.slcToD rfl rfl ok.hP (by omega) (by omega) (fun s' hs' => ?_)
    | (refine W1.callV rfl rfl (WV.func ((f48 hs'.up (by omega) (fun k hk => h49 _ _ _ _ _ .here k (by omega))).mono fun v M' => ?_)); rintro ⟨rfl, tt, rfl⟩)
    | (refine W1.callV rfl rfl (WV.func ((f50 (R := fun _ _ => True) hws.up (by omega) hwsc (fun k hk _ => h51 _ k hk)).mono fun v M' => ?_)); rintro ⟨rfl, a5, e5, rfl, _⟩)
    | (refine W1.callV rfl rfl (WV.func ((f42one .here).mono fun v M' => ?_)); rintro ⟨rfl, tt, rfl, ht⟩)
    | refine W1.lenSlc rfl hws.up.1 ?_
    | refine W1.lenSlc rfl ok.hH.up ?_
    | refine W1.ldS rfl (.there h1) rfl (conjR (ReC.ldS rfl rfl (.there h1) rfl) (by simp) ?_)
    | refine W1.ldS rfl .here rfl (conjR (ReC.ldS rfl rfl .here rfl) (by simp) ?_)
    | refine W1.ldS rfl (.there h1) rfl ?_
    | refine W1.ldS rfl .here rfl ?_
    | refine W1.shlU rfl rfl (by omega) (fun q => ?_)
    | refine W1.subU rfl rfl (fun q => ?_)
    | refine WC.ret ?_
    | refine WC.seq ?_
    | refine WC.block ?_
    | refine WC.region ?_
    | refine WC.draw ?_
    | refine WC.skip ?_
    | refine WC.cond rfl (fun hc => ?_) (fun hc => ?_)
    | refine WO.nil ?_
    | refine WO.cons ?_
    | refine WD.nil ?_
    | refine WD.cons0 ?_
    | refine WD.consH ?_
    | refine WD.consR ?_
    | refine W1.mv rfl ?_
    | refine W1.fa rfl ?_
    | refine W1.ext rfl rfl ?_
    | refine W1.mkfn rfl rfl ?_
    | refine W1.neq rfl rfl ?_
    | refine W1.not rfl ?_
    | refine W1.bldS rfl rfl rfl (fun bb => ?_)
    | refine Exists.intro _ (And.intro (Res.tmp rfl Res.nil) ?_)
  all_goals exact ⟨by repeat (first | exact Suf.refl | apply Suf.cons), _, rfl⟩
set_option maxHeartbeats 1000000 in
theorem f53 {g : Gz} {M M1 : Mem} {t : HsD} {b1 i : Nat} (ok : HsOk g t) (hi : i < t.nF) (h1 : At M b1 (Arr1 t.cells {}) M1) :
    WF tbl g 53 [.int .i64 i, .agg (t.fig i), .ptr b1 0] M fun v M' => M' = M ∧ ∃ e, v = .int .i64 e := by
  obtain ⟨nm, a, b, c, d, e, hr⟩ := ok.frow i hi
  have hnf := ok.nF
  have h55 : ∀ (bp : Nat) (M M1 : Mem) r nm2, At M bp (Arr1 (.str nm2 :: r) {}) M1 → ∀ k, k < t.nF → WV tbl g (.func 55 [] [.ptr bp 0]) [.agg (t.fig k)] M fun v M' => M' = M ∧ ∃ t, v = .bool t := by
    intro bp M M1 r nm2 h k hk
    obtain ⟨_, _, _, _, _, _, e⟩ := ok.frow k hk
    rw [e]; exact WV.func (f55 h)
  rw [hr]
  refine WF.trimS (WF.intro rfl (Nat.le_of_ble_eq_true rfl) ?_)
  repeat' first
    | (refine W1.callP rfl f47 (fun v hv => ?_); obtain ⟨tn, rfl⟩ := hv)
    | refine W1.slcToD rfl rfl ok.hF (by omega) (by omega) (fun s' hs' => ?_)
    | (refine W1.callV rfl rfl (WV.func ((f54 hs'.up (by omega) (fun k hk => h55 _ _ _ _ _ .here k (by omega))).mono fun v M' => ?_)); rintro ⟨rfl, tt, rfl⟩)
    | (refine W1.callV rfl rfl (WV.func ((f42one .here).mono fun v M' => ?_)); rintro ⟨rfl, tt, rfl, ht⟩)
    | (refine W1.callV rfl rfl (WV.func (f41.mono fun v M' => ?_)); rintro ⟨rfl, e5, rfl⟩)
    | refine W1.ldS rfl (.there h1) rfl ?_
    | refine W1.ldS rfl .here rfl ?_
    | refine W1.ldS rfl (.there .here) rfl ?_
    | refine W1.ldS rfl (.there (.there .here)) rfl ?_
    | refine W1.ldS rfl (.there (.there (.there .here))) rfl ?_
    | refine WC.ret ?_
    | refine WC.seq ?_
    | refine WC.block ?_
    | refine WC.region ?_
    | refine WC.skip ?_
    | refine WC.cond_t rfl (by first | assumption | rfl) ?_
    | refine WC.cond rfl (fun hc => ?_) (fun hc => ?_)
    | refine WO.nil ?_
    | refine WO.cons ?_
    | refine W1.guard_y rfl (by first | assumption | rfl) ?_
    | refine W1.guard_n rfl (by first | assumption | rfl) ?_
    | refine W1.guard rfl (fun hc => ?_) (fun hc => ?_)
    | refine W1.pick_t rfl (by first | assumption | rfl) rfl ?_
    | refine W1.pick_f rfl (by first | assumption | rfl) rfl ?_
    | refine W1.mv rfl ?_
    | refine W1.fa rfl ?_
    | refine W1.mkfn rfl rfl ?_
    | refine W1.not rfl ?_
    | refine W1.bld rfl rfl ?_
    | refine W1.bldS rfl rfl rfl (fun bb => ?_)
    | refine W1.box rfl rfl (fun bb => ?_)
    | refine Exists.intro _ (And.intro (Res.tmp rfl Res.nil) ?_)
  all_goals exact ⟨by repeat (first | exact Suf.refl | apply Suf.cons), _, rfl⟩
end Go.Ax
end
section
namespace Go.Ax
open Go.Ax.Ir
attribute [local irreducible] W1 WO WC WD WF WV
set_option maxHeartbeats 2000000 in
theorem f7 {g : Gz} {M : Mem} {t : HsD} (ok : HsOk g t) : WF tbl g 7 [.agg t.cells] M fun v M' => M' = M ∧ ∃ p a e, v = .tup [.int .i64 p, .int .i64 a, .int .i64 e] ∧ (e = 0 → HsVal t) := by
  have hnh := ok.nH
  have hnp := ok.nP
  have hnf := ok.nF
  have hnb := ok.nB
  have hfsc : ∀ k, k < t.nF → (t.fig k).all V.scalar = true := by
    intro k hk; obtain ⟨_, _, _, _, _, _, e⟩ := ok.frow k hk; rw [e]; rfl
  have hpsc : ∀ k, k < t.nP → (t.place k).all V.scalar = true := by
    intro k hk; obtain ⟨_, _, w, _, e, hw, _⟩ := ok.prow k hk; rw [e]; simp [hw]; exact ⟨rfl, rfl, rfl⟩
  have h82 : ∀ {M M1 M2 : Mem} {n lo hi : Int} {b2 b3 : Nat} (i : Nat), At M b2 (Arr1 [.int .i64 lo] {}) M1 → At M b3 (Arr1 [.int .i64 hi] {}) M2 → WV tbl g (.func 82 [] [.ptr b2 0, .ptr b3 0]) [.int .i64 i, .int .i64 n] M fun v M' => M' = M ∧ ∃ e, v = .int .i64 e ∧ True :=
    fun i h2 h3 => WV.func ((f82 h2 h3).mono fun v M' ⟨h1, e, h2⟩ => ⟨h1, e, h2, trivial⟩)
  have h46 : ∀ {M M1 : Mem} {b1 i : Nat}, i < t.nP → At M b1 (Arr1 t.cells {}) M1 → WV tbl g (.func 46 [] [.ptr b1 0]) [.int .i64 i, .agg (t.place i)] M fun v M' => M' = M ∧ ∃ e, v = .int .i64 e ∧ True :=
    fun hi h1 => WV.func ((f46 ok hi h1).mono fun v M' ⟨h1, e, h2⟩ => ⟨h1, e, h2, trivial⟩)
  have h53 : ∀ {M M1 : Mem} {b1 i : Nat}, i < t.nF → At M b1 (Arr1 t.cells {}) M1 → WV tbl g (.func 53 [] [.ptr b1 0]) [.int .i64 i, .agg (t.fig i)] M fun v M' => M' = M ∧ ∃ e, v = .int .i64 e ∧ True :=
    fun hi h1 => WV.func ((f53 ok hi h1).mono fun v M' ⟨h1, e, h2⟩ => ⟨h1, e, h2, trivial⟩)
  refine WF.trimS (WF.intro rfl (Nat.le_of_ble_eq_true rfl) ?_)
  repeat' first
    | refine W1.box rfl ok.sc7 (fun b1 => ?_)
    | refine W1.ldA rfl .here (Nat.le_of_ble_eq_true rfl) ?_
    | (refine W1.callV rfl rfl (WV.func (f41.mono fun v M' => ?_)); rintro ⟨rfl, e1, rfl⟩)
    | (refine W1.callV rfl rfl (WV.func ((f42one .here).mono fun v M' => ?_)); rintro ⟨rfl, tt, rfl, hst⟩)
    | (refine W1.callV rfl rfl (WV.func ((f43 (R := fun _ _ => True) ok.hH.up (by omega) (fun i hi _ => h82 i (.there .here) .here)).mono fun v M' => ?_)); rintro ⟨rfl, a3, e3, rfl, q3⟩)
    | (refine W1.callV rfl rfl (WV.func ((f43 (R := fun _ _ => True) ok.hB.up (by omega) (fun i hi _ => h82 i (.there .here) .here)).mono fun v M' => ?_)); rintro ⟨rfl, a6, e6, rfl, q6⟩)
    | (refine W1.callV rfl rfl (WV.func ((f45 (R := fun _ _ => True) ok.hP.up (by omega) hpsc (fun i hi _ => h46 hi (.there (.there (.there .here))))).mono fun v M' => ?_)); rintro ⟨rfl, a4, e4, rfl, q4⟩)
    | (refine W1.callV rfl rfl (WV.func ((f52 (R := fun _ _ => True) ok.hF.up (by omega) hfsc (fun i hi _ => h53 hi (.there (.there (.there .here))))).mono fun v M' => ?_)); rintro ⟨rfl, a5, e5, rfl, q5⟩)
    | (refine W1.callV rfl rfl (WV.func (f44.mono fun v M' => ?_)); rintro ⟨b2, b3, rfl, rfl⟩)
    | refine And.intro (fun x hx => (List.mem_singleton.1 hx) ▸ (ReC.ldS rfl rfl (.there (.there (.there .here))) rfl)) (And.intro (by simp) ?_)
    | refine And.intro (fun x hx => (List.mem_singleton.1 hx) ▸ (ReC.ldS rfl rfl (.there (.there (.there (.there (.there .here))))) rfl)) (And.intro (by simp) ?_)
    | refine WC.ret ?_
    | refine WC.seq ?_
    | refine WC.region ?_
    | refine WC.draw ?_
    | refine WC.skip ?_
    | refine WC.cond rfl (fun hc => ?_) (fun hc => ?_)
    | refine WO.nil ?_
    | refine WO.cons ?_
    | refine WD.nil ?_
    | refine WD.cons0 ?_
    | refine WD.consH ?_
    | refine WD.consR ?_
    | refine W1.mv rfl ?_
    | refine W1.fa rfl ?_
    | refine W1.ext rfl rfl ?_
    | refine W1.mkfn rfl rfl ?_
    | refine W1.neq rfl rfl ?_
    | refine W1.bldS rfl rfl rfl (fun bb => ?_)
    | refine Exists.intro _ (And.intro (Res.tmp rfl (Res.tmp rfl (Res.tmp rfl Res.nil))) ?_)
    | refine W1.ldS rfl .here rfl ?_
    | refine W1.ldS rfl (.there .here) rfl (conjR (ReC.ldS rfl rfl (.there .here) rfl) (by simp) ?_)
    | refine W1.ldS rfl (.there (.there (.there .here))) rfl (conjR (ReC.ldS rfl rfl (.there (.there (.there .here))) rfl) (by simp) ?_)
    | refine W1.ldS rfl (.there (.there (.there .here))) rfl ?_
    | refine WD.cons ?_
  · exact ⟨by repeat (first | exact Suf.refl | apply Suf.cons), _, _, _, rfl, fun h => absurd h (by simpa using hc)⟩
  · exact ⟨by repeat (first | exact Suf.refl | apply Suf.cons), _, _, _, rfl, fun h => absurd h (by decide)⟩
  · exact ⟨by repeat (first | exact Suf.refl | apply Suf.cons), _, _, _, rfl, fun h => absurd h (by simpa using hc)⟩
  · exact ⟨by repeat (first | exact Suf.refl | apply Suf.cons), _, _, _, rfl, fun h => absurd h (by simpa using hc)⟩
  · exact ⟨by repeat (first | exact Suf.refl | apply Suf.cons), _, _, _, rfl, fun h => absurd h (by simpa using hc)⟩
  · exact ⟨by repeat (first | exact Suf.refl | apply Suf.cons), _, _, _, rfl, fun h => absurd h (by simpa using hc)⟩
  · exact ⟨by repeat (first | exact Suf.refl | apply Suf.cons), _, _, _, rfl, fun _ => ⟨hst (by assumption), by have := (q3 (by simpa using ‹(!decide (e3 = 0)) = false›)).1; omega, by have := (q4 (by simpa using ‹(!decide (e4 = 0)) = false›)).1; omega, by have := (q5 (by simpa using ‹(!decide (e5 = 0)) = false›)).1; omega, by have := (q6 (by simpa using ‹(!decide (e6 = 0)) = false›)).1; omega⟩⟩
end Go.Ax
end
section
namespace Go.Ax
open Go.Ax.Ir
theorem rdB_all {cs : List V} {a : BA} {n : Nat} (h : cs.length = n) : ∀ blk, Arr1 cs a blk → rdB blk true 0 n = some (.agg cs) := by
  intro blk e
  rw [show blk = .arr cs a from e]
  simp only [rdB]
  rw [if_pos trivial, if_pos (by omega), take_all h]
abbrev RUL : List V := [.bool false, .func 85 [] [], .bool true, .func 86 [] []]
structure HsF (g : Gz) (t : HsD) (bT : Nat) : Prop where
  ok : HsOk g t
  val : HsVal t
  hT : ∃ bR, g bT = some (.arr (t.cells ++ [.slice bR 0 2 (some 2) 2]) {}) ∧ g bR = some (.arr RUL {})
theorem HsF.ld {g : Gz} {t : HsD} {bT : Nat} (h : HsF g t bT) : rdAgg g true bT 0 2 = some (.agg [.int .i64 t.lo, .int .i64 t.hi]) ∧ rdAgg g false bT 2 1 = some (.int .i64 t.st) ∧ rdAgg g false bT 3 1 = some t.sH ∧ rdAgg g false bT 4 1 = some t.sP ∧ rdAgg g false bT 5 1 = some t.sF ∧ rdAgg g false bT 6 1 = some t.sB := by
  obtain ⟨bR, h1, _⟩ := h.hT
  refine ⟨?_, ?_, ?_, ?_, ?_, ?_⟩ <;> simp [rdAgg, rdG, h1, HsD.cells]
attribute [local irreducible] W1 WO WC WD WF WV
set_option maxHeartbeats 1000000 in
theorem f56 {g : Gz} {M : Mem} {t : HsD} (ok : HsOk g t) : WF tbl g 56 [.agg t.cells] M fun v M' => ∃ bT bR e, v = .tup [.ptr bT 0, .int .i64 e] ∧ (e = 0 → HsVal t) ∧ M' = (bT, Arr1 (t.cells ++ [.slice bR 0 2 (some 2) 2]) {}) :: (bR, Arr1 RUL {}) :: M := by
  refine WF.trim (WF.intro rfl (Nat.le_of_ble_eq_true rfl) ?_)
  repeat' first
    | refine W1.box rfl ok.sc7 (fun b1 => ?_)
    | refine W1.ldAll rfl .here rfl ?_
    | (refine W1.callV rfl rfl (WV.func ((f7 ok).mono fun v M' => ?_)); rintro ⟨rfl, p, a, e, rfl, hv⟩)
    | refine WC.ret ?_
    | refine WC.seq ?_
    | refine WC.region ?_
    | refine WO.nil ?_
    | refine WO.cons ?_
    | refine W1.mv rfl ?_
    | refine W1.ext rfl rfl ?_
    | refine W1.bld rfl rfl ?_
    | refine W1.bldS rfl rfl rfl (fun bb => ?_)
    | refine Exists.intro _ (And.intro (Res.tmp rfl (Res.tmp rfl Res.nil)) ?_)
  exact ⟨_, _, perm_rot3 _ _ _ _, _, _, _, rfl, hv, rfl⟩
theorem f57 {g : Gz} {M : Mem} {t : HsD} {bT : Nat} {pl lit : Int} (h : HsF g t bT) : WF tbl g 57 [.ptr bT 0, .int .i64 pl, .int .i64 lit] M fun v M' => M' = M ∧ ∃ e, v = .int .i64 e ∧ (e = 0 → 0 ≤ pl ∧ pl < t.nP) := by
  obtain ⟨l0, l2, l3, l4, l5, l6⟩ := h.ld
  have hst := h.val.st
  have hnp := h.val.nP
  refine WF.trimS (WF.intro rfl (Nat.le_of_ble_eq_true rfl) ?_)
  repeat' first
    | refine W1.ldG rfl l2 ?_
    | refine W1.ldG rfl l4 ?_
    | refine W1.lenSlc rfl h.ok.hP.up.1 ?_
    | (refine W1.callV rfl rfl (WV.func ((f42one .here).mono fun v M' => ?_)); rintro ⟨rfl, tt, rfl, ht⟩)
    | refine W1.shlU rfl rfl (by omega) (fun q => ?_)
    | refine WC.ret ?_
    | refine WC.seq ?_
    | refine WC.block ?_
    | refine WC.region ?_
    | refine WC.skip ?_
    | refine WC.cond rfl (fun hc => ?_) (fun hc => ?_)
    | refine WO.nil ?_
    | refine WO.cons ?_
    | refine W1.mv rfl ?_
    | refine W1.nilck rfl ?_
    | refine W1.fa rfl ?_
    | refine W1.bldS rfl rfl rfl (fun bb => ?_)
    | refine Exists.intro _ (And.intro (Res.tmp rfl Res.nil) ?_)
    | refine W1.sub rfl rfl (by omega) (by omega) ?_
    | refine W1.subU rfl rfl (fun q => ?_)
  · exact ⟨by repeat (first | exact Suf.refl | apply Suf.cons), _, rfl, fun e => absurd e (by decide)⟩
  · exact ⟨by repeat (first | exact Suf.refl | apply Suf.cons), _, rfl, fun e => absurd e (by decide)⟩
  · exact ⟨by repeat (first | exact Suf.refl | apply Suf.cons), _, rfl, fun _ => by have := ‹_ = false → 0 ≤ pl ∧ pl ≤ (t.nP : Int) - 1› (by assumption); omega⟩
set_option maxHeartbeats 1000000 in
theorem f58 {g : Gz} {M : Mem} {t : HsD} {bT : Nat} {pl lit : Int} (h : HsF g t bT) (h0 : 0 ≤ pl) (h1 : pl < t.nP) : WF tbl g 58 [.ptr bT 0, .int .i64 pl, .int .i64 lit] M fun v M' => M' = M ∧ ∃ x y, v = .agg [.int .i64 x, .int .i64 y] := by
  obtain ⟨l0, l2, l3, l4, l5, l6⟩ := h.ld
  have hst := h.val.st
  have hnp := h.val.nP
  obtain ⟨nm, d, w, j, hr, hw, hws, hnw⟩ := h.ok.prow pl.toNat (by omega)
  have hwr : ∀ i, i < t.nW pl.toNat → ∃ a b, t.warm pl.toNat i = [.int .i64 a, .int .i64 b] := fun i hi => h.ok.wrow pl.toNat i (by omega) hi
  have hnw' : t.nW pl.toNat ≤ 1000000000000 := by omega
  refine WF.trimS (WF.intro rfl (Nat.le_of_ble_eq_true rfl) ?_)
  repeat' first
    | (refine WC.forR (n := t.nW pl.toNat) [0, 1, 2, 6, 7, 23, 24] (fun _ (_ : Unit) => []) (fun i _ M' => ∃ x y, M' = (b7, Arr1 [.int .i64 x, .int .i64 y] {}) :: (b6, Arr1 [.int .i64 0, .int .i64 0] {}) :: M) () hnw' rfl (fun _ _ => rfl) (fun _ _ => rfl) (fun _ _ => rfl) (fun _ _ => rfl) ⟨rfl, rfl⟩ (subL.nil _) ⟨t.lo, t.hi, rfl⟩ ?_ ?_ <;> first | rintro i a M' hi ⟨x, y, rfl⟩ | rintro a M' ⟨x, y, rfl⟩)
    | refine W1.ldG rfl l0 ?_
    | refine W1.ldG rfl l4 ?_
    | refine W1.stAll rfl rfl rfl rfl rfl .here ?_
    | refine W1.iaRow rfl rfl h.ok.hP.up h0 h1 (fun b o hrd => ?_)
    | refine W1.ldR rfl ((hr ▸ hrd).at 2 rfl) ?_
    | refine W1.lenSlc rfl hws.up.1 ?_
    | refine W1.alloc (d := 6) rfl (fun b6 => ?_)
    | refine W1.alloc (d := 7) rfl (fun b7 => ?_)
    | refine W1.iaRow rfl rfl hws.up (by omega) (by omega) (fun b o hrw => ?_)
    | (obtain ⟨p, q, hpq⟩ := hwr i hi; refine W1.ldV (vs := [.int .i64 p, .int .i64 q]) rfl rfl (hpq ▸ hrw) ?_)
    | refine W1.shrU rfl rfl (by omega) (fun z => ?_)
    | refine W1.andU rfl rfl (fun z => ?_)
    | refine W1.addU rfl rfl (fun z => ?_)
    | exact ⟨(), _, [_], rfl, by repeat (first | exact subL.nil _ | refine subL.cons rfl ?_), List.Perm.refl _, _, _, rfl⟩
    | refine WC.ret ?_
    | refine WC.seq ?_
    | refine WC.block ?_
    | refine WC.region ?_
    | refine WC.skip ?_
    | refine WC.cond rfl (fun hc => ?_) (fun hc => ?_)
    | refine WO.nil ?_
    | refine WO.cons ?_
    | refine W1.mv rfl ?_
    | refine W1.nilck rfl ?_
    | refine W1.fa rfl ?_
    | refine W1.eql rfl rfl ?_
    | refine W1.alloc rfl (fun bb => ?_)
    | refine W1.ldS rfl .here rfl ?_
    | refine W1.ldS rfl (.there .here) rfl ?_
    | refine W1.ldAll rfl .here rfl ?_
    | refine W1.stAll rfl rfl rfl rfl rfl (.there .here) ?_
    | refine W1.st rfl rfl rfl rfl (.there .here) (Nat.le_of_ble_eq_true rfl) ?_
  exact ⟨_, Res.cell rfl (.there .here) (rdB_all rfl) Res.nil, by repeat (first | exact Suf.refl | apply Suf.cons), _, _, rfl⟩
end Go.Ax
end
section
namespace Go.Ax
open Go.Ax.Ir
theorem WC.house {ft : FT FnR} {g : Gz} {cur : Option Nat} {c : ICode} {L : Env} {M : Mem} {K : X → Env → Mem → Prop} {t : HsD} {bT bR : Nat} (ok : HsOk g t)
    (h : ∀ g', g.le g' → HsOk g' t → (HsVal t → HsF g' t bT) → WC ft g' cur c L M fun x L1 M1 => K x L1 ((bT, Arr1 (t.cells ++ [.slice bR 0 2 (some 2) 2]) {}) :: (bR, Arr1 RUL {}) :: M1)) :
    WC ft g cur c L ((bT, Arr1 (t.cells ++ [.slice bR 0 2 (some 2) 2]) {}) :: (bR, Arr1 RUL {}) :: M) K := by
  refine WC.freeze .here fun hb => WC.freeze .here fun hb2 => ?_
  have hle : g.le ((g.add bT (.arr (t.cells ++ [.slice bR 0 2 (some 2) 2]) {})).add bR (.arr RUL {})) := fun c p e => Gz.le_add hb2 c p (Gz.le_add hb c p e)
  exact h _ hle (ok.lessG hle) fun hv => ⟨ok.lessG hle, hv, bR, Gz.le_add hb2 _ _ (Gz.add_eq _ _ _), Gz.add_eq _ _ _⟩
theorem rs2 {g : Gz} {L : Env} {M : Mem} {a b : IOper} (h : ReC g a L M) (k : ReC g b L M) : ∀ x ∈ [a, b], ReC g x L M := fun x hx => by
  rcases List.mem_cons.1 hx with rfl | hx
  · exact h
  · rw [List.mem_singleton.1 hx]; exact k
theorem rs1 {g : Gz} {L : Env} {M : Mem} {a : IOper} (h : ReC g a L M) : ∀ x ∈ [a], ReC g x L M := fun x hx => by
  rw [List.mem_singleton.1 hx]; exact h
attribute [local irreducible] W1 WO WC WD WF WV
set_option maxHeartbeats 1000000 in
theorem f59 {g : Gz} {M : Mem} {t : HsD} {bT : Nat} {fi pl lit : Int} (h : HsF g t bT) (hf0 : 0 ≤ fi) (hf1 : fi < t.nF) (h0 : 0 ≤ pl) (h1 : pl < t.nP) : WF tbl g 59 [.ptr bT 0, .int .i64 fi, .int .i64 pl, .int .i64 lit] M fun v M' => M' = M ∧ ∃ n, v = .int .i64 n := by
  obtain ⟨l0, l2, l3, l4, l5, l6⟩ := h.ld
  obtain ⟨nm, a, b, c, d, e, hr⟩ := h.ok.frow fi.toNat (by omega)
  refine WF.trimS (WF.intro rfl (Nat.le_of_ble_eq_true rfl) ?_)
  repeat' first
    | (refine W1.callV rfl rfl (WV.func ((f58 h h0 h1).mono fun v M' => ?_)); rintro ⟨rfl, x, y, rfl⟩)
    | refine W1.ldG rfl l5 (And.intro (ReC.ldG rfl rfl l5) (And.intro (bk1 (.head _) (ReC.ldG rfl rfl l5)) ?_))
    | (refine W1.iaRow0 rfl rfl h.ok.hF hf0 hf1 (fun bf o hrd => ?_); rw [hr] at hrd)
    | refine W1.ldV (vs := [.str nm, .int .i64 a, .int .i64 b, .int .i64 c, .int .i64 d, .int .i64 e]) rfl rfl (hrd _) (And.intro (ReC.ldV rfl rfl rfl (hrd _)) (And.intro (bk1 (.head _) (ReC.ldV rfl rfl rfl (hrd _))) ?_))
    | refine W1.alloc (d := 9) rfl (fun b9 => ?_)
    | refine W1.alloc (d := 10) rfl (fun b10 => ?_)
    | refine W1.alloc (d := 11) rfl (fun b11 => ?_)
    | refine W1.stAll rfl rfl rfl rfl rfl (.there .here) (And.intro (rs2 (ReC.ldG rfl rfl l5) (ReC.ldV rfl rfl rfl (hrd _))) (And.intro (by simp) ?_))
    | refine W1.eqv rfl rfl rfl ?_
    | refine W1.mxU rfl rfl (fun z => ?_)
    | refine W1.mnU rfl rfl (fun z => ?_)
    | refine WC.ret ?_
    | refine WC.seq ?_
    | refine WC.block ?_
    | refine WC.region ?_
    | refine WC.draw ?_
    | refine WC.skip ?_
    | refine WC.cond rfl (fun hc => ?_) (fun hc => ?_)
    | refine WO.nil ?_
    | refine WO.cons ?_
    | refine WD.nil ?_
    | refine WD.cons0 ?_
    | refine WD.consH ?_
    | refine WD.consR ?_
    | refine W1.mv rfl ?_
    | refine W1.nilck rfl ?_
    | refine W1.fa rfl ?_
    | refine W1.gtr rfl rfl ?_
    | refine W1.bld rfl rfl ?_
    | refine Exists.intro _ (And.intro (Res.tmp rfl Res.nil) ?_)
    | refine W1.ldS rfl .here rfl ?_
    | refine W1.ldS rfl (.there .here) rfl ?_
    | refine W1.ldAll rfl .here rfl ?_
    | refine W1.ldAll rfl (.there (.there .here)) rfl ?_
    | refine W1.stAll rfl rfl rfl rfl rfl .here ?_
    | refine WD.cons ?_
  all_goals exact ⟨by repeat (first | exact Suf.refl | apply Suf.cons), _, rfl⟩
set_option maxHeartbeats 1000000 in
theorem f12 {g : Gz} {M : Mem} {t : HsD} {pl lit : Int} (ok : HsOk g t) : WF tbl g 12 [.agg t.cells, .int .i64 pl, .int .i64 lit] M fun v M' => M' = M ∧ ∃ x y e, v = .tup [.agg [.int .i64 x, .int .i64 y], .int .i64 e] := by
  refine WF.trimS (WF.intro rfl (Nat.le_of_ble_eq_true rfl) ?_)
  repeat' first
    | refine W1.box rfl ok.sc7 (fun b1 => ?_)
    | refine W1.ldAll rfl (.there .here) rfl ?_
    | (refine W1.callV rfl rfl (WV.func ((f56 ok).mono fun v M' => ?_)); rintro ⟨bT, bR, e, rfl, hv, rfl⟩)
    | refine WC.house ok (fun g' hg ok' hF => ?_)
    | (refine W1.callV rfl rfl (WV.func ((f57 (hF (hv (by simpa using hc)))).mono fun v M' => ?_)); rintro ⟨rfl, e2, rfl, h2⟩)
    | (refine W1.callV rfl rfl (WV.func ((f58 (hF (hv (by simpa using ‹decide (e = 0) = true›))) (h2 (by simpa using hc)).1 (h2 (by simpa using hc)).2).mono fun v M' => ?_)); rintro ⟨rfl, x, y, rfl⟩)
    | (exfalso; have := ‹decide (e = 0) = false›; have := ‹(!decide (e = 0)) = false›; simp_all; done)
    | refine WC.ret ?_
    | refine WC.seq ?_
    | refine WC.region ?_
    | refine WC.skip ?_
    | refine WC.cond rfl (fun hc => ?_) (fun hc => ?_)
    | refine WO.nil ?_
    | refine WO.cons ?_
    | refine W1.mv rfl ?_
    | refine W1.ext rfl rfl ?_
    | refine W1.eql rfl rfl ?_
    | refine W1.neq rfl rfl ?_
    | refine W1.bld rfl rfl ?_
    | refine W1.alloc rfl (fun bb => ?_)
    | refine W1.stAll rfl rfl rfl rfl rfl .here ?_
  all_goals exact ⟨_, Res.cell rfl (.there (.there .here)) (rdB_all rfl) (Res.tmp rfl Res.nil), by repeat (first | exact Suf.refl | apply Suf.cons), _, _, _, rfl⟩
set_option maxHeartbeats 1000000 in
theorem f15 {g : Gz} {M : Mem} {t : HsD} {fi pl lit : Int} (ok : HsOk g t) : WF tbl g 15 [.agg t.cells, .int .i64 fi, .int .i64 pl, .int .i64 lit] M fun v M' => M' = M ∧ ∃ n e, v = .tup [.int .i64 n, .int .i64 e] := by
  have hnf := ok.nF
  refine WF.trimS (WF.intro rfl (Nat.le_of_ble_eq_true rfl) ?_)
  repeat' first
    | refine W1.box rfl ok.sc7 (fun b1 => ?_)
    | refine W1.ldAll rfl .here rfl ?_
    | refine W1.lenSlc rfl ok'.hF.up.1 ?_
    | (refine W1.callV rfl rfl (WV.func ((f56 ok).mono fun v M' => ?_)); rintro ⟨bT, bR, e, rfl, hv, rfl⟩)
    | refine WC.house ok (fun g' hg ok' hF => ?_)
    | (refine W1.callV rfl rfl (WV.func ((f42one .here).mono fun v M' => ?_)); rintro ⟨rfl, tt, rfl, ht⟩)
    | (refine W1.callV rfl rfl (WV.func ((f57 (hF (hv (by simpa using ‹(!decide (e = 0)) = false›)))).mono fun v M' => ?_)); rintro ⟨rfl, e2, rfl, h2⟩)
    | (refine W1.callV rfl rfl (WV.func ((f59 (hF (hv (by simpa using ‹(!decide (e = 0)) = false›))) (ht (by assumption)).1 (by have := (ht (by assumption)).2; omega) (h2 (by simpa using hc)).1 (h2 (by simpa using hc)).2).mono fun v M' => ?_)); rintro ⟨rfl, x, rfl⟩)
    | refine WC.ret ?_
    | refine WC.seq ?_
    | refine WC.block ?_
    | refine WC.region ?_
    | refine WC.skip ?_
    | refine WC.cond rfl (fun hc => ?_) (fun hc => ?_)
    | refine WO.nil ?_
    | refine WO.cons ?_
    | refine W1.mv rfl ?_
    | refine W1.fa rfl ?_
    | refine W1.ext rfl rfl ?_
    | refine W1.neq rfl rfl ?_
    | refine W1.bldS rfl rfl rfl (fun bb => ?_)
    | refine Exists.intro _ (And.intro (Res.tmp rfl (Res.tmp rfl Res.nil)) ?_)
    | refine W1.ldS rfl .here rfl ?_
    | refine W1.sub rfl rfl (by omega) (by omega) ?_
  all_goals exact ⟨by repeat (first | exact Suf.refl | apply Suf.cons), _, _, rfl⟩
end Go.Ax
end
section
namespace Go.Ax
open Go.Ax.Ir
def SpOk (t : HsD) (p : List V) (f : Nat → Int) : Prop := p.length = 5 ∧ ∀ i, i < 5 → p[i]? = some (.int .i64 (f i)) ∧ 0 ≤ f i ∧ f i ≤ t.nP ∧ (f i ≠ 0 → i < t.nF)
theorem SpOk.sc {t : HsD} {p : List V} {f : Nat → Int} (h : SpOk t p f) : (V.agg p).cells.all V.scalar = true := by
  refine List.all_eq_true.2 fun v hv => ?_
  obtain ⟨i, hi⟩ := List.getElem?_of_mem hv
  have hlt := (List.getElem?_eq_some_iff.1 hi).1
  have := (h.2 i (by rw [← h.1]; exact hlt)).1
  have hi' : p[i]? = some v := hi
  rw [this] at hi'; cases hi'; rfl
theorem SpOk.at {t : HsD} {p : List V} {f : Nat → Int} (h : SpOk t p f) {i : Nat} (hi : i < 5) : p[((i : Int)).toNat * 1]? = some (.int .i64 (f i)) := by
  simpa using (h.2 i hi).1
theorem SpOk.set {t : HsD} {p : List V} {f : Nat → Int} (h : SpOk t p f) {i : Nat} (hi : i < t.nF) (hn : t.nF ≤ 5) {x : Int} (h0 : 0 ≤ x) (h1 : x ≤ t.nP) : SpOk t (splice p (0 + i * 1) [.int .i64 x]) (fun k => if k = i then x else f k) := by
  refine ⟨by rw [spl_len (by rw [h.1]; simp; omega)]; exact h.1, fun k hk => ?_⟩
  rw [splice_one (by rw [h.1]; omega)]
  obtain ⟨q1, q2, q3, q4⟩ := h.2 k hk
  by_cases hki : k = i
  · subst hki
    simp [h0, h1, hi]
  · have : ¬ k = 0 + i * 1 := by omega
    simp only [if_neg this, if_neg hki]
    exact ⟨q1, q2, q3, q4⟩
theorem SpOk.zero {t : HsD} : SpOk t [.int .i64 0, .int .i64 0, .int .i64 0, .int .i64 0, .int .i64 0] (fun _ => 0) := by
  refine ⟨rfl, fun i hi => ?_⟩
  have : i = 0 ∨ i = 1 ∨ i = 2 ∨ i = 3 ∨ i = 4 := by omega
  refine ⟨by rcases this with rfl | rfl | rfl | rfl | rfl <;> rfl, by show (0 : Int) ≤ 0; omega, by show (0 : Int) ≤ t.nP; omega, fun e => absurd rfl e⟩
attribute [local irreducible] W1 WO WC WD WF WV
theorem IntL.allSc {cs : List V} (h : IntL cs) : cs.all V.scalar = true := by
  refine List.all_eq_true.2 fun v hv => ?_
  obtain ⟨n, rfl⟩ := h v hv
  rfl
theorem r4 (n : Nat) (h : n ≤ 4) (cs : List V) (hl : cs.length = 4) (k : Nat) (hk : k < n) : 0 + ((k : Int)).toNat * 1 < cs.length := by rw [hl]; omega
set_option maxHeartbeats 2000000 in
theorem f61 {g : Gz} {M : Mem} {t : HsD} {bT : Nat} {p : List V} {f : Nat → Int} (h : HsF g t bT) (hp : SpOk t p f) : WF tbl g 61 [.ptr bT 0, .agg p] M fun v M' => M' = M ∧ ∃ cs, v = .agg cs ∧ cs.length = 4 ∧ IntL cs := by
  obtain ⟨l0, l2, l3, l4, l5, l6⟩ := h.ld
  have hnh := h.val.nH
  have hnp := h.val.nP
  refine WF.trimS (WF.intro rfl (Nat.le_of_ble_eq_true rfl) ?_)
  repeat' first
    | (refine WC.forO (blk := 0) (n := 5) [0, 3, 4, 8] (fun _ (_ : Unit) => []) (fun i _ M' => ∃ cs, cs.length = 4 ∧ IntL cs ∧ M' = (b4, Arr1 cs {}) :: (b3, Arr1 p {}) :: M) () (by decide) rfl (fun _ _ => rfl) (fun _ _ => rfl) (fun _ _ => rfl) (fun _ _ => rfl) ⟨rfl, rfl⟩ (subL.nil _) ⟨[.int .i64 0, .int .i64 0, .int .i64 0, .int .i64 0], rfl, by intro v hv; simp at hv; exact ⟨0, hv⟩, rfl⟩ ?_ ?_ <;> first | rintro i a M' hi ⟨cs, hcs, hint, rfl⟩ | rintro a M' ⟨cs, hcs, hint, rfl⟩)
    | (refine WC.forO (blk := 2) (n := t.nH) [0, 3, 4, 8, 5, 6, 9, 20] (fun _ (_ : Unit) => []) (fun i _ M' => ∃ cs, cs.length = 4 ∧ IntL cs ∧ M' = (b4, Arr1 cs {}) :: (b3, Arr1 p {}) :: M) () (by omega) rfl (fun _ _ => rfl) (fun _ _ => rfl) (fun _ _ => rfl) (fun _ _ => rfl) ⟨rfl, rfl⟩ (subL.nil _) ⟨cs, hcs, hint, rfl⟩ ?_ ?_ <;> first | (rintro k a M' hk ⟨cs, hcs, hint, rfl⟩; obtain ⟨q, hq⟩ := hint.get (r4 _ hnh _ hcs k hk); obtain ⟨nm, d, w, j, hr, hw, hws, hnw⟩ := h.ok.prow (f i - 1).toNat (by have h1 := (hp.2 i hi).2.1; have h2 := (hp.2 i hi).2.2.1; have h3 : ¬ f i = 0 := (by simpa using hc); omega); obtain ⟨nm', fa, fb, fc, fd, fe, hrf⟩ := h.ok.frow i ((hp.2 i hi).2.2.2 (by simpa using hc))) | rintro a M' ⟨cs, hcs, hint, rfl⟩)
    | refine W1.box rfl hp.sc (fun b3 => ?_)
    | refine W1.alloc (d := 4) rfl (fun b4 => ?_)
    | refine W1.ldAll rfl (.there .here) hp.1 ?_
    | refine W1.ldAll rfl .here hcs ?_
    | refine W1.stAll rfl rfl hcs hcs hint.allSc .here ?_
    | refine W1.ixS rfl rfl (by omega) (by omega) (hp.at hi) ?_
    | refine W1.ldG rfl l3 ?_
    | refine W1.ldG rfl l4 ?_
    | refine W1.ldG rfl l5 (conjR (ReC.ldG rfl rfl l5) (by simp) ?_)
    | refine W1.lenSlc rfl h.ok.hH.up ?_
    | (refine W1.iaRow0 (n := t.nP) rfl rfl h.ok.hP (by have h1 := (hp.2 i hi).2.1; have h3 : ¬ f i = 0 := (by simpa using ‹decide (f i = 0) = false›); omega) (by have h2 := (hp.2 i hi).2.2.1; omega) (fun bq o hrd => ?_); rw [hr] at hrd)
    | (refine W1.iaRow0 (n := t.nF) rfl rfl h.ok.hF (by omega) (by have := (hp.2 i hi).2.2.2 (by simpa using ‹decide (f i = 0) = false›); omega) (fun br o hrd => ?_); rw [show ((i : Int)).toNat = i from by omega, hrf] at hrd)
    | refine W1.ldR rfl ((hrd _).at 3 rfl) ?_
    | refine W1.ldR rfl ((hrd _).at 2 rfl) (conjR (ReC.ldR rfl rfl ((hrd _).at 2 rfl)) (by simp) ?_)
    | refine W1.iaa rfl rfl (by omega) (by omega) ?_
    | refine W1.ldS rfl .here hq (conjR (ReC.ldS rfl rfl .here hq) (by simp) ?_)
    | refine W1.shrU rfl rfl (by omega) (fun z => ?_)
    | refine W1.andU rfl rfl (fun z => ?_)
    | refine W1.addU rfl rfl (fun z => ?_)
    | refine W1.sub rfl rfl (by have h1 := (hp.2 i hi).2.1; omega) (by have h2 := (hp.2 i hi).2.2.1; omega) ?_
    | refine W1.st rfl rfl rfl rfl .here (by have := r4 _ hnh _ hcs k hk; simp; omega) ?_
    | exact ⟨(), _, [], rfl, by repeat (first | exact subL.nil _ | refine subL.cons rfl ?_), List.Perm.refl _, _, hcs, hint, rfl⟩
    | exact ⟨(), _, [], rfl, by repeat (first | exact subL.nil _ | refine subL.cons rfl ?_), List.Perm.refl _, _, by rw [spl_len (by have := r4 _ hnh _ hcs k hk; simp; omega)]; exact hcs, hint.set, rfl⟩
    | refine WC.seq ?_
    | refine WC.block ?_
    | refine WC.region ?_
    | refine WC.draw ?_
    | refine WC.skip ?_
    | refine WC.exit ?_
    | refine WC.cond rfl (fun hc => ?_) (fun hc => ?_)
    | refine WO.nil ?_
    | refine WO.cons ?_
    | refine WD.nil ?_
    | refine WD.cons0 ?_
    | refine WD.consH ?_
    | refine WD.consR ?_
    | refine W1.mv rfl ?_
    | refine W1.nilck rfl ?_
    | refine W1.fa rfl ?_
    | refine W1.eql rfl rfl ?_
  exact WC.ret ⟨_, Res.cell rfl .here (rdB_all hcs) Res.nil, by repeat (first | exact Suf.refl | apply Suf.cons), _, rfl, hcs, hint⟩
set_option maxHeartbeats 2000000 in
theorem f85 {g : Gz} {M : Mem} {t : HsD} {bT : Nat} {p : List V} {f : Nat → Int} (h : HsF g t bT) (hp : SpOk t p f) : WF tbl g 85 [.ptr bT 0, .agg p] M fun v M' => M' = M ∧ ∃ tt, v = .bool tt := by
  obtain ⟨l0, l2, l3, l4, l5, l6⟩ := h.ld
  have hnh := h.val.nH
  refine WF.trimS (WF.intro rfl (Nat.le_of_ble_eq_true rfl) ?_)
  repeat' first
    | (refine WC.forO (blk := 0) (n := 4) [0, 3, 9] (fun _ (_ : Unit) => []) (fun i _ M' => M' = (b3, Arr1 p {}) :: M) () (by decide) rfl (fun _ _ => rfl) (fun _ _ => rfl) (fun _ _ => rfl) (fun _ _ => rfl) ⟨rfl, rfl⟩ (subL.nil _) rfl ?_ ?_ <;> first | (rintro i a M' hi rfl; obtain ⟨q, hq⟩ := hint.get (i := ((i : Int)).toNat * 1) (by omega)) | rintro a M' rfl)
    | refine W1.box rfl hp.sc (fun b3 => ?_)
    | refine W1.ldAll rfl .here hp.1 ?_
    | (refine W1.callV rfl rfl (WV.func ((f61 h hp).mono fun v M' => ?_)); rintro ⟨rfl, cs, rfl, hcs, hint⟩)
    | refine W1.ixS rfl rfl (by omega) (by omega) hq ?_
    | refine W1.ldG rfl l3 ?_
    | refine W1.lenSlc rfl h.ok.hH.up ?_
    | refine W1.iaSlc rfl rfl h.ok.hH.up (by omega) (by have := of_decide_eq_true ‹decide ((i : Int) < (t.nH : Int)) = true›; omega) (fun b o hrd => ?_)
    | refine W1.ldR rfl (hrd 0 (by omega)) ?_
    | exact ⟨(), _, [], rfl, by repeat (first | exact subL.nil _ | refine subL.cons rfl ?_), List.Perm.refl _, rfl⟩
    | refine WC.ret ?_
    | refine WC.seq ?_
    | refine WC.block ?_
    | refine WC.region ?_
    | refine WC.skip ?_
    | refine WC.cond_f rfl (by first | assumption | rfl) ?_
    | refine WC.cond rfl (fun hc => ?_) (fun hc => ?_)
    | refine WO.nil ?_
    | refine WO.cons ?_
    | refine W1.guard_y rfl (by first | assumption | rfl) ?_
    | refine W1.guard_n rfl (by first | assumption | rfl) ?_
    | refine W1.guard rfl (fun hc => ?_) (fun hc => ?_)
    | refine W1.pick_t rfl (by first | assumption | rfl) rfl ?_
    | refine W1.pick_f rfl (by first | assumption | rfl) rfl ?_
    | refine W1.mv rfl ?_
    | refine W1.nilck rfl ?_
    | refine W1.fa rfl ?_
    | refine W1.lss rfl rfl ?_
    | refine W1.gtr rfl rfl ?_
    | refine Exists.intro _ (And.intro (Res.tmp rfl Res.nil) ?_)
  all_goals exact ⟨by repeat (first | exact Suf.refl | apply Suf.cons), _, rfl⟩
end Go.Ax
end
section
namespace Go.Ax
open Go.Ax.Ir
theorem SpOk.eq {t : HsD} {p : List V} {f : Nat → Int} (h : SpOk t p f) : p = [.int .i64 (f 0), .int .i64 (f 1), .int .i64 (f 2), .int .i64 (f 3), .int .i64 (f 4)] := by
  have hl := h.1
  have h0 := (h.2 0 (by omega)).1
  have h1 := (h.2 1 (by omega)).1
  have h2 := (h.2 2 (by omega)).1
  have h3 := (h.2 3 (by omega)).1
  have h4 := (h.2 4 (by omega)).1
  match p, hl with
  | [a, b, c, d, e], _ =>
    simp at h0 h1 h2 h3 h4
    rw [h0, h1, h2, h3, h4]
attribute [local irreducible] W1 WO WC WD WF WV
set_option maxHeartbeats 2000000 in
theorem f86 {g : Gz} {M : Mem} {t : HsD} {bT : Nat} {p : List V} {f : Nat → Int} (h : HsF g t bT) (hp : SpOk t p f) : WF tbl g 86 [.ptr bT 0, .agg p] M fun v M' => M' = M ∧ ∃ tt, v = .bool tt := by
  obtain ⟨l0, l2, l3, l4, l5, l6⟩ := h.ld
  have hnp := h.val.nP
  have hnb := h.val.nB
  have hp' := hp
  obtain rfl := hp.eq
  refine WF.trimS (WF.intro rfl (Nat.le_of_ble_eq_true rfl) ?_)
  repeat' first
    | (refine WC.forO (blk := 0) (n := 5) [0, 3, 5, 21] (fun _ (_ : Unit) => []) (fun i _ M' => M' = (b5, MapOf IsI IsI) :: (b3, Arr1 [.int .i64 (f 0), .int .i64 (f 1), .int .i64 (f 2), .int .i64 (f 3), .int .i64 (f 4)] {}) :: M) () (by decide) rfl (fun _ _ => rfl) (fun _ _ => rfl) (fun _ _ => rfl) (fun _ _ => rfl) ⟨rfl, rfl⟩ (subL.nil _) rfl ?_ ?_ <;> first | rintro i a M' hi rfl | rintro a M' rfl)
    | (refine WC.forO (blk := 2) (n := t.nB) [0, 3, 5, 57, 58] (fun _ (_ : Unit) => []) (fun i _ M' => M' = (b5, MapOf IsI IsI) :: (b3, Arr1 [.int .i64 (f 0), .int .i64 (f 1), .int .i64 (f 2), .int .i64 (f 3), .int .i64 (f 4)] {}) :: M) () (by omega) rfl (fun _ _ => rfl) (fun _ _ => rfl) (fun _ _ => rfl) (fun _ _ => rfl) ⟨rfl, rfl⟩ (subL.nil _) rfl ?_ ?_ <;> first | rintro i a M' hi rfl | rintro a M' rfl)
    | refine W1.box rfl rfl (fun b3 => ?_)
    | refine W1.mkmapOf IsI IsI (fun b5 => ?_)
    | refine W1.ldAll rfl .here rfl ?_
    | refine W1.ldAll rfl (.there .here) rfl ?_
    | refine W1.eqv rfl rfl rfl ?_
    | refine W1.ixS rfl rfl (by omega) (by omega) (hp'.at hi) ?_
    | refine W1.ldG rfl l4 ?_
    | refine W1.ldG rfl l5 ?_
    | refine W1.ldG rfl l6 ?_
    | refine W1.lenSlc rfl h.ok.hB.up ?_
    | refine W1.sub rfl rfl (by have h1 := (hp'.2 i hi).2.1; omega) (by have h2 := (hp'.2 i hi).2.2.1; omega) ?_
    | (refine W1.iaRow0 (n := t.nP) rfl rfl h.ok.hP (by have h3 := of_decide_eq_true ‹decide (0 < f i) = true›; omega) (by have h2 := (hp'.2 i hi).2.2.1; omega) (fun bq o hrd => ?_); obtain ⟨nm, d, w, j, hr, hw, hws, hnw⟩ := h.ok.prow (f i - 1).toNat (by have h3 := of_decide_eq_true ‹decide (0 < f i) = true›; have h2 := (hp'.2 i hi).2.2.1; omega); rw [hr] at hrd)
    | (refine W1.iaRow0 (n := t.nF) rfl rfl h.ok.hF (by omega) (by have h3 := of_decide_eq_true ‹decide (0 < f i) = true›; have := (hp'.2 i hi).2.2.2 (by omega); omega) (fun br o hrd => ?_); obtain ⟨nm', fa, fb, fc, fd, fe, hrf⟩ := h.ok.frow i ((hp'.2 i hi).2.2.2 (by have h3 := of_decide_eq_true ‹decide (0 < f i) = true›; omega)); rw [show ((i : Int)).toNat = i from by omega, hrf] at hrd)
    | refine W1.ldR rfl ((hrd _).at 1 rfl) ?_
    | refine W1.iaSlc rfl rfl h.ok.hB.up (by omega) (by omega) (fun b o hrd => ?_)
    | refine W1.ldR rfl (hrd 0 (by omega)) ?_
    | (refine W1.lkp1 rfl rfl .here keyI ⟨_, rfl⟩ ⟨_, rfl⟩ ?_; rintro v ⟨n, rfl⟩)
    | refine W1.mapup rfl rfl rfl .here keyI ⟨_, rfl⟩ ⟨_, rfl⟩ ?_
    | refine W1.addU rfl rfl (fun z => ?_)
    | refine W1.subU rfl rfl (fun z => ?_)
    | exact ⟨(), _, [], rfl, by repeat (first | exact subL.nil _ | refine subL.cons rfl ?_), List.Perm.refl _, rfl⟩
    | refine WC.ret ?_
    | refine WC.seq ?_
    | refine WC.block ?_
    | refine WC.region ?_
    | refine WC.skip ?_
    | refine WC.cond_f rfl (by first | assumption | rfl) ?_
    | refine WC.cond rfl (fun hc => ?_) (fun hc => ?_)
    | refine WO.nil ?_
    | refine WO.cons ?_
    | refine W1.guard_y rfl (by first | assumption | rfl) ?_
    | refine W1.guard_n rfl (by first | assumption | rfl) ?_
    | refine W1.guard rfl (fun hc => ?_) (fun hc => ?_)
    | refine W1.pick_t rfl (by first | assumption | rfl) rfl ?_
    | refine W1.pick_f rfl (by first | assumption | rfl) rfl ?_
    | refine W1.mv rfl ?_
    | refine W1.nilck rfl ?_
    | refine W1.fa rfl ?_
    | refine W1.lss rfl rfl ?_
    | refine W1.gtr rfl rfl ?_
    | refine W1.eql rfl rfl ?_
    | refine W1.bld rfl rfl ?_
    | refine Exists.intro _ (And.intro (Res.tmp rfl Res.nil) ?_)
  all_goals exact ⟨by repeat (first | exact Suf.refl | apply Suf.cons), _, rfl⟩
set_option maxHeartbeats 2000000 in
theorem f88 {g : Gz} {M : Mem} {t : HsD} {bT : Nat} {p : List V} {f : Nat → Int} {last : Bool} (h : HsF g t bT) (hp : SpOk t p f) : WF tbl g 88 [.ptr bT 0, .agg p, .bool last] M fun v M' => M' = M ∧ ∃ tt, v = .bool tt := by
  obtain ⟨l0, l2, l3, l4, l5, l6⟩ := h.ld
  obtain ⟨bR, hT, hR⟩ := h.hT
  have l7 : rdAgg g false bT 7 1 = some (.slice bR 0 2 (some 2) 2) := by simp [rdAgg, hT, HsD.cells]
  have hRul : SlcR g [] (.slice bR 0 2 (some 2) 2) 2 2 (fun i => if i = 0 then [.bool false, .func 85 [] []] else [.bool true, .func 86 [] []]) := by
    refine ⟨Or.inr ⟨bR, 0, some 2, rfl, fun c e => by cases e; omega, fun hp hs => ?_⟩, by omega, fun i hi => by show (ite _ _ _ : List V).length = 2; split <;> rfl⟩
    obtain ⟨hn, hg⟩ := hs.fz bR _ hR
    refine ⟨RUL, {}, hn, hg, fun i hi j hj => ?_⟩
    obtain rfl | rfl : i = 0 ∨ i = 1 := by omega
    · obtain rfl | rfl : j = 0 ∨ j = 1 := by omega
      · rfl
      · rfl
    · obtain rfl | rfl : j = 0 ∨ j = 1 := by omega
      · rfl
      · rfl
  refine WF.trimS (WF.intro rfl (Nat.le_of_ble_eq_true rfl) ?_)
  repeat' first
    | (refine WC.forO (blk := 0) (n := 2) [0, 2, 4, 12, 13] (fun _ (_ : Unit) => []) (fun i _ M' => M' = (b4, Arr1 p {}) :: M) () (by omega) rfl (fun _ _ => rfl) (fun _ _ => rfl) (fun _ _ => rfl) (fun _ _ => rfl) ⟨rfl, rfl⟩ (subL.nil _) rfl ?_ ?_ <;> first | (rintro i a M' hi rfl; obtain rfl | rfl : i = 0 ∨ i = 1 := by omega) | rintro a M' rfl)
    | refine W1.box rfl hp.sc (fun b4 => ?_)
    | refine W1.ldG rfl l7 ?_
    | refine W1.len rfl ?_
    | (refine W1.iaRow0 (n := 2) rfl rfl hRul (by omega) (by omega) (fun bq o hrd => ?_))
    | refine W1.ldV rfl rfl (hrd _) ?_
    | refine W1.ldAll rfl (.there .here) hp.1 ?_
    | (refine W1.callV rfl rfl (WV.func ((f85 h hp).mono fun v M' => ?_)); rintro ⟨rfl, tt, rfl⟩)
    | (refine W1.callV rfl rfl (WV.func ((f86 h hp).mono fun v M' => ?_)); rintro ⟨rfl, tt, rfl⟩)
    | exact ⟨(), _, [_], rfl, by repeat (first | exact subL.nil _ | refine subL.cons rfl ?_), List.Perm.refl _, rfl⟩
    | refine WC.ret ?_
    | refine WC.seq ?_
    | refine WC.block ?_
    | refine WC.region ?_
    | refine WC.skip ?_
    | refine WC.cond_f rfl (by first | assumption | rfl) ?_
    | refine WC.cond rfl (fun hc => ?_) (fun hc => ?_)
    | refine WO.nil ?_
    | refine WO.cons ?_
    | refine W1.guard_y rfl (by first | assumption | rfl) ?_
    | refine W1.guard_n rfl (by first | assumption | rfl) ?_
    | refine W1.guard rfl (fun hc => ?_) (fun hc => ?_)
    | refine W1.pick_t rfl (by first | assumption | rfl) rfl ?_
    | refine W1.pick_f rfl (by first | assumption | rfl) rfl ?_
    | refine W1.mv rfl ?_
    | refine W1.nilck rfl ?_
    | refine W1.fa rfl ?_
    | refine W1.not rfl ?_
    | refine W1.alloc rfl (fun bb => ?_)
    | refine Exists.intro _ (And.intro (Res.tmp rfl Res.nil) ?_)
    | refine W1.ldS rfl .here rfl ?_
    | refine W1.stAll rfl rfl rfl rfl rfl .here ?_
  all_goals exact ⟨by repeat (first | exact Suf.refl | apply Suf.cons), _, rfl⟩
end Go.Ax
end
section
namespace Go.Ax
open Go.Ax.Ir
attribute [local irreducible] W1 WO WC WD WF WV
def C90 (bT b1 b2 b3 b4 b5 b6 : Nat) (yv : V) (lit : Int) (p : List V) (M : Mem) : Mem :=
  (b6, Arr1 [.func 90 [] [.ptr b1 0, .ptr b5 0, .ptr b2 0, .ptr b4 0, .ptr b3 0, .ptr b6 0]] {}) :: (b5, Arr1 p {}) :: (b4, Arr1 [.int .i64 lit] {}) :: (b3, Arr1 [.func 59 [.ptr bT 0] []] {}) :: (b2, Arr1 [yv] {}) :: (b1, Arr1 [.ptr bT 0] {}) :: M
def Round (g : Gz) (t : HsD) (bT b1 b2 b3 b4 b5 b6 : Nat) (yv : V) (lit : Int) (I J : Mem → Prop) : Prop := ∀ p f M, SpOk t p f → I M →
  WV tbl g yv [.agg (.int .i64 lit :: p)] (C90 bT b1 b2 b3 b4 b5 b6 yv lit p M) fun v M' => ∃ tt M2, v = .bool tt ∧ M' = C90 bT b1 b2 b3 b4 b5 b6 yv lit p M2 ∧ (tt = true → I M2) ∧ (tt = false → J M2)
set_option maxHeartbeats 4000000 in
theorem f90 {g : Gz} {t : HsD} {yv : V} {bT b1 b2 b3 b4 b5 b6 : Nat} {lit : Int} {I J : Mem → Prop} (h : HsF g t bT) (hy : Round g t bT b1 b2 b3 b4 b5 b6 yv lit I J) :
    ∀ (k : Nat) (c u : Int) (p : List V) (f : Nat → Int) (M : Mem), 0 ≤ c → c + k = t.nF → SpOk t p f → I M →
      WF tbl g 90 [.int .i64 c, .int .i64 u, .ptr b1 0, .ptr b5 0, .ptr b2 0, .ptr b4 0, .ptr b3 0, .ptr b6 0] (C90 bT b1 b2 b3 b4 b5 b6 yv lit p M) fun v M' => ∃ tt p' f' M2, v = .bool tt ∧ M' = C90 bT b1 b2 b3 b4 b5 b6 yv lit p' M2 ∧ SpOk t p' f' ∧ (tt = true → I M2) ∧ (tt = false → J M2) := by
  obtain ⟨l0, l2, l3, l4, l5, l6⟩ := h.ld
  have hnp := h.val.nP
  have hnf := h.val.nF
  intro k
  induction k with
  | zero =>
    intro c u p f M hc0 hck hp hI
    have hdec : decide (c = (t.nF : Int)) = true := decide_eq_true (by omega)
    have hy' := hy p f M hp hI
    have hp' := hp
    obtain rfl := hp.eq
    unfold C90 at hy' ⊢
    refine WF.intro rfl (Nat.le_of_ble_eq_true rfl) ?_
    repeat' first
      | refine WC.cond_t rfl hdec ?_
      | refine W1.ldG rfl l5 ?_
      | refine W1.lenSlc rfl h.ok.hF.up.1 ?_
      | refine W1.ldAll rfl (.there .here) rfl ?_
      | (refine W1.callV rfl rfl (WV.func ((f88 h hp').mono fun v M' => ?_)); rintro ⟨rfl, tk, rfl⟩)
      | (refine W1.callV rfl rfl (hy'.mono fun v M' => ?_); rintro ⟨tt, M2, rfl, rfl, h1, h2⟩)
      | refine WC.ret ?_
      | refine WC.seq ?_
      | refine WC.region ?_
      | refine WC.scope ?_
      | refine WO.nil ?_
      | refine WO.cons ?_
      | refine W1.guard_y rfl (by first | assumption | rfl) ?_
      | refine W1.guard_n rfl (by first | assumption | rfl) ?_
      | refine W1.guard rfl (fun hc => ?_) (fun hc => ?_)
      | refine W1.pick_t rfl (by first | assumption | rfl) rfl ?_
      | refine W1.pick_f rfl (by first | assumption | rfl) rfl ?_
      | refine W1.mv rfl ?_
      | refine W1.nilck rfl ?_
      | refine W1.fa rfl ?_
      | refine W1.eql rfl rfl ?_
      | refine W1.not rfl ?_
      | refine W1.bld rfl rfl ?_
      | refine Exists.intro _ (And.intro (Res.tmp rfl Res.nil) ?_)
      | refine W1.ldS rfl (.there (.there .here)) rfl ?_
      | refine W1.ldS rfl (.there (.there (.there (.there .here)))) rfl ?_
      | refine W1.ldS rfl (.there (.there (.there (.there (.there .here))))) rfl ?_
    · exact ⟨tt, _, f, M2, rfl, rfl, hp', h1, h2⟩
    · exact ⟨true, _, f, M, rfl, rfl, hp', fun _ => hI, by simp⟩
  | succ k ih =>
    intro c u p f M hc0 hck hp hI
    have hdec : decide (c = (t.nF : Int)) = false := decide_eq_false (by omega)
    refine WF.intro rfl (Nat.le_of_ble_eq_true rfl) ?_
    repeat' first
      | refine WC.cond_f rfl hdec ?_
      | (refine WC.forO (blk := 0) (n := t.nP) [0, 1, 2, 3, 4, 5, 6, 7, 35, 36] (fun _ (_ : Unit) => []) (fun i _ M' => ∃ p f M2, SpOk t p f ∧ I M2 ∧ M' = C90 bT b1 b2 b3 b4 b5 b6 yv lit p M2) () (by omega) rfl (fun _ _ => rfl) (fun _ _ => rfl) (fun _ _ => rfl) (fun _ _ => rfl) ⟨rfl, rfl⟩ (subL.nil _) ⟨p, f, M, hp, hI, rfl⟩ ?_ ?_ <;> first | (rintro i a M' hi ⟨p, f, M, hp, hI, rfl⟩; have hl := hp.1; have hp2 := hp.set (i := c.toNat) (x := (i : Int) + 1) (by omega) hnf (by omega) (by omega); have hl2 := hp2.1; unfold C90) | (rintro a M' ⟨p, f, M, hp, hI, rfl⟩; have hl := hp.1; have hp2 := hp.set (i := c.toNat) (x := 0) (by omega) hnf (by omega) (by omega); have hl2 := hp2.1; unfold C90))
      | refine W1.ldG rfl l5 ?_
      | refine W1.ldG rfl l4 ?_
      | refine W1.lenSlc rfl h.ok.hF.up.1 ?_
      | refine W1.lenSlc rfl h.ok.hP.up.1 ?_
      | refine W1.shrU rfl rfl (by omega) (fun z => ?_)
      | refine W1.shlU rfl rfl (by omega) (fun z => ?_)
      | refine W1.andU rfl rfl (fun z => ?_)
      | refine W1.orU rfl rfl (fun z => ?_)
      | (refine W1.callV rfl rfl (WV.func ((f59 h (fi := c) (pl := i) (by omega) (by omega) (by omega) (by omega)).mono fun v M' => ?_)); rintro ⟨rfl, ff, rfl⟩)
      | (refine W1.callV rfl rfl (WV.func ((f88 h hp2).mono fun v M' => ?_)); rintro ⟨rfl, tk, rfl⟩)
      | (refine W1.callV rfl rfl (WV.func ((ih (c + 1) _ _ _ M (by omega) (by omega) hp2 hI).mono fun v M' => ?_)); rintro ⟨tt, p3, f3, M3, rfl, rfl, hp3, h1', h2'⟩)
      | refine W1.iaa rfl rfl (by omega) (by omega) ?_
      | refine W1.st rfl rfl rfl rfl (.there .here) (by simp; omega) ?_
      | refine W1.ldAll rfl (.there .here) hl2 (conjR (ReC.ldAll rfl rfl (.there .here) hl2) (by simp) ?_)
      | refine conjR (ReC.skip rfl (by first | assumption | rfl)) (by simp) ?_
      | refine WC.ret ?_
      | refine WC.seq ?_
      | refine WC.block ?_
      | refine WC.region ?_
      | refine WC.draw ?_
      | refine WC.scope ?_
      | refine WC.skip ?_
      | refine WC.exit ?_
      | refine WC.cond_t rfl (by first | assumption | rfl) ?_
      | refine WC.cond_f rfl (by first | assumption | rfl) ?_
      | refine WC.cond rfl (fun hc => ?_) (fun hc => ?_)
      | refine WO.nil ?_
      | refine WO.cons ?_
      | refine WD.nil ?_
      | refine WD.cons0 ?_
      | refine WD.consH ?_
      | refine WD.consR ?_
      | refine W1.guard_y rfl (by first | assumption | rfl) ?_
      | refine W1.guard_n rfl (by first | assumption | rfl) ?_
      | refine W1.guard rfl (fun hc => ?_) (fun hc => ?_)
      | refine W1.pick_t rfl (by first | assumption | rfl) rfl ?_
      | refine W1.pick_f rfl (by first | assumption | rfl) rfl ?_
      | refine W1.mv rfl ?_
      | refine W1.nilck rfl ?_
      | refine W1.fa rfl ?_
      | refine W1.eql rfl rfl ?_
      | refine W1.neq rfl rfl ?_
      | refine W1.not rfl ?_
      | refine Exists.intro _ (And.intro (Res.tmp rfl Res.nil) ?_)
      | refine W1.ldS rfl .here rfl (conjR (ReC.ldS rfl rfl .here rfl) (by simp) ?_)
      | refine W1.ldS rfl .here rfl ?_
      | refine W1.ldS rfl (.there (.there .here)) rfl ?_
      | refine W1.ldS rfl (.there (.there (.there .here))) rfl ?_
      | refine W1.ldS rfl (.there (.there (.there (.there (.there .here))))) rfl (conjR (ReC.ldS rfl rfl (.there (.there (.there (.there (.there .here))))) rfl) (by simp) ?_)
      | refine W1.ldS rfl (.there (.there (.there (.there (.there .here))))) rfl ?_
      | refine W1.add rfl rfl (by omega) (by omega) ?_
    · exact ⟨(), _, [], rfl, by repeat (first | exact subL.nil _ | refine subL.cons rfl ?_), List.Perm.refl _, p, f, M, hp, hI, rfl⟩
    · exact ⟨false, p3, f3, M3, rfl, rfl, hp3, by simp, fun _ => h2' (by simpa using hc)⟩
    · exact ⟨(), _, [], rfl, by repeat (first | exact subL.nil _ | refine subL.cons rfl ?_), List.Perm.refl _, p3, f3, M3, hp3, h1' (by simpa using hc), rfl⟩
    · exact ⟨(), _, [], rfl, by repeat (first | exact subL.nil _ | refine subL.cons rfl ?_), List.Perm.refl _, _, _, M, hp2, hI, rfl⟩
    · exact ⟨(), _, [], rfl, by repeat (first | exact subL.nil _ | refine subL.cons rfl ?_), List.Perm.refl _, p, f, M, hp, hI, rfl⟩
    · exact ⟨tt, p3, f3, M3, rfl, rfl, hp3, h1', h2'⟩
end Go.Ax
end
section
namespace Go.Ax
open Go.Ax.Ir
attribute [local irreducible] W1 WO WC WD WF WV
theorem f68 {g : Gz} {M : Mem} {bT : Nat} : WF tbl g 68 [.ptr bT 0] M fun v M' => ∃ b1, v = .func 89 [] [.ptr b1 0] ∧ M' = (b1, Arr1 [.ptr bT 0] {}) :: M := by
  refine WF.intro rfl (Nat.le_of_ble_eq_true rfl) ?_
  repeat' first
    | refine WC.ret ?_
    | refine WC.seq ?_
    | refine WC.region ?_
    | refine WO.nil ?_
    | refine WO.cons ?_
    | refine W1.mv rfl ?_
    | refine W1.mkfn rfl rfl ?_
    | refine W1.box rfl rfl (fun bb => ?_)
    | refine Exists.intro _ (And.intro (Res.tmp rfl Res.nil) ?_)
  exact ⟨_, rfl, rfl⟩
set_option maxHeartbeats 1000000 in
theorem f89 {g : Gz} {t : HsD} {bT b1 l : Nat} {I J : Mem → Prop} {M : Mem} (h : HsF g t bT) (hr : ∀ b2 b3 b4 b5 b6 lit, Round g t bT b1 b2 b3 b4 b5 b6 (.yield l) lit I J) (hI : I M) :
    WF tbl g 89 [.yield l, .ptr b1 0] ((b1, Arr1 [.ptr bT 0] {}) :: M) fun _ M' => I M' ∨ J M' := by
  obtain ⟨l0, l2, l3, l4, l5, l6⟩ := h.ld
  obtain ⟨st, hst⟩ : ∃ n : Nat, t.st = n := ⟨t.st.toNat, by have := h.val.st; omega⟩
  have hst3 : st ≤ 4 := by have := h.val.st; omega
  rw [hst] at l2
  refine WF.trim (WF.intro rfl (Nat.le_of_ble_eq_true rfl) ?_)
  repeat' first
    | (refine W1.shl1 rfl rfl hst3 (fun k hk0 hk1 => ?_); obtain ⟨kn, rfl⟩ : ∃ n : Nat, k = n := ⟨k.toNat, by omega⟩)
    | (refine WC.forO (blk := 0) (n := kn) [0, 1, 2, 3, 14] (fun _ (_ : Unit) => []) (fun i _ M' => ∃ M2, I M2 ∧ M' = (b3, Arr1 [.func 59 [.ptr bT 0] []] {}) :: (b2, Arr1 [.yield l] {}) :: (b1, Arr1 [.ptr bT 0] {}) :: M2) () (by omega) rfl (fun _ _ => rfl) (fun _ _ => rfl) (fun _ _ => rfl) (fun _ _ => rfl) ⟨rfl, rfl⟩ (subL.nil _) ⟨M, hI, rfl⟩ ?_ ?_ <;> first | rintro i a M' hi ⟨M2, hI2, rfl⟩ | rintro a M' ⟨M2, hI2, rfl⟩)
    | refine W1.box rfl rfl (fun b2 => ?_)
    | refine W1.alloc (d := 3) rfl (fun b3 => ?_)
    | refine W1.ldG rfl l2 ?_
    | (refine W1.callV rfl rfl (WV.func ((f90 h (hr _ _ _ _ _ _) t.nF 0 0 _ (fun _ => 0) M2 (by omega) (by omega) SpOk.zero hI2).mono fun v M' => ?_)); rintro ⟨tt, p', f', M3, rfl, rfl, hp', h1, h2⟩)
    | exact ⟨(), _, [_, _, _], rfl, by repeat (first | exact subL.nil _ | refine subL.cons rfl ?_), List.Perm.refl _, M3, h1 (by simpa using hc), rfl⟩
    | refine WC.ret ?_
    | refine WC.seq ?_
    | refine WC.block ?_
    | refine WC.region ?_
    | refine WC.skip ?_
    | refine WC.cond rfl (fun hc => ?_) (fun hc => ?_)
    | refine WO.nil ?_
    | refine WO.cons ?_
    | refine W1.mv rfl ?_
    | refine W1.nilck rfl ?_
    | refine W1.fa rfl ?_
    | refine W1.mkfn rfl rfl ?_
    | refine W1.not rfl ?_
    | refine W1.alloc rfl (fun bb => ?_)
    | refine Exists.intro _ (And.intro Res.nil ?_)
    | refine W1.ldS rfl .here rfl ?_
    | refine W1.ldS rfl (.there .here) rfl ?_
    | refine W1.ldS rfl (.there (.there .here)) rfl ?_
    | refine W1.st rfl rfl rfl rfl .here (Nat.le_of_ble_eq_true rfl) ?_
  · exact ⟨M3, [_, _, _, _, _, _], List.Perm.refl _, Or.inr (h2 (by simpa using hc))⟩
  · exact ⟨M2, [_, _, _], List.Perm.refl _, Or.inl hI2⟩
end Go.Ax
end
section
namespace Go.Ax
open Go.Ax.Ir
attribute [local irreducible] W1 WO WC WD WF WV
theorem f101 {g : Gz} {M : Mem} {s : V} {n : Nat} {num : Nat → Int} {x : Int} (hs : Slc g M s n 1 fun i _ => .int .i64 (num i)) (hn : n ≤ 1000000000000) : WF tbl g 101 [s, .int .i64 x] M fun v M' => M' = M ∧ ∃ k : Int, v = .int .i64 k := by
  refine WF.intro rfl (Nat.le_of_ble_eq_true rfl) ?_
  repeat' first
    | (refine WC.forO (blk := 0) (n := n) [0, 1, 7] (fun _ (_ : Unit) => []) (fun i _ M' => M' = M) () hn rfl (fun _ _ => rfl) (fun _ _ => rfl) (fun _ _ => rfl) (fun _ _ => rfl) ⟨rfl, rfl⟩ (subL.nil _) rfl ?_ ?_ <;> first | rintro i a M' hi rfl | rintro a M' rfl)
    | refine W1.lenSlc rfl hs ?_
    | refine W1.iaSlc rfl rfl hs (by omega) (by omega) (fun b o hrd => ?_)
    | refine W1.ldR rfl (hrd 0 (by omega)) ?_
    | exact ⟨(), _, [], rfl, by repeat (first | exact subL.nil _ | refine subL.cons rfl ?_), List.Perm.refl _, rfl⟩
    | refine WC.ret ?_
    | refine WC.seq ?_
    | refine WC.block ?_
    | refine WC.region ?_
    | refine WC.skip ?_
    | refine WC.cond rfl (fun hc => ?_) (fun hc => ?_)
    | refine WO.nil ?_
    | refine WO.cons ?_
    | refine W1.mv rfl ?_
    | refine W1.eql rfl rfl ?_
    | refine Exists.intro _ (And.intro (Res.tmp rfl Res.nil) ?_)
  all_goals exact ⟨rfl, _, rfl⟩
theorem f87 {g : Gz} {M : Mem} {s : V} {n : Nat} {num : Nat → Int} {x : Int} (hs : Slc g M s n 1 fun i _ => .int .i64 (num i)) (hn : n ≤ 1000000000000) : WF tbl g 87 [s, .int .i64 x] M fun v M' => M' = M ∧ ∃ t, v = .bool t := by
  refine WF.intro rfl (Nat.le_of_ble_eq_true rfl) ?_
  repeat' first
    | (refine W1.callV rfl rfl (WV.func ((f101 hs hn).mono fun v M' => ?_)); rintro ⟨rfl, k, rfl⟩)
    | refine WC.ret ?_
    | refine WC.seq ?_
    | refine WC.region ?_
    | refine WO.nil ?_
    | refine WO.cons ?_
    | refine W1.mv rfl ?_
    | refine W1.geq rfl rfl ?_
    | refine Exists.intro _ (And.intro (Res.tmp rfl Res.nil) ?_)
  exact ⟨rfl, _, rfl⟩
set_option maxHeartbeats 1000000 in
theorem f62 {g : Gz} {M M1 : Mem} {b o n : Nat} {cap : Option Nat} {cs : List V} (hat : At M b (Arr1 cs {}) M1) (hl : o + n * 1 ≤ cs.length) (hn : n ≤ 1000000) : WF tbl g 62 [.slice b o n cap 1] M fun v M' => ∃ b' cap', v = .slice b' 0 n cap' 1 ∧ (∀ c, cap' = some c → n ≤ c) ∧ M' = (b', Arr1 ((cs.drop o).take (n * 1)) {}) :: M := by
  refine WF.trim (WF.intro rfl (Nat.le_of_ble_eq_true rfl) ?_)
  by_cases h0 : n = 0
  · subst h0
    repeat' first
      | refine W1.eqv rfl rfl rfl ?_
      | refine W1.bldS (cs := []) rfl rfl rfl (fun b5 => ?_)
      | refine W1.app0 rfl rfl (Src.row (.there hat) hl) ?_
      | refine WC.ret ?_
      | refine WC.seq ?_
      | refine WC.region ?_
      | refine WC.skip ?_
      | refine WC.cond_f rfl (by first | assumption | rfl) ?_
      | refine WO.nil ?_
      | refine WO.cons ?_
      | refine W1.mv rfl ?_
      | refine Exists.intro _ (And.intro (Res.tmp rfl Res.nil) ?_)
    exact ⟨_, [], List.Perm.refl _, _, _, rfl, fun c e => Nat.zero_le _, by simp⟩
  · repeat' first
      | refine W1.eqv rfl rfl rfl ?_
      | refine W1.bldS (cs := []) rfl rfl rfl (fun b5 => ?_)
      | refine W1.appG (c := 0) rfl rfl (Src.row (.there hat) hl) h0 (by omega) (Src.row .here (Nat.le_of_ble_eq_true rfl)) (by simp [limit]; omega) (fun b' => ?_)
      | refine WC.ret ?_
      | refine WC.seq ?_
      | refine WC.region ?_
      | refine WC.skip ?_
      | refine WC.cond_f rfl (by first | assumption | rfl) ?_
      | refine WO.nil ?_
      | refine WO.cons ?_
      | refine W1.mv rfl ?_
      | refine Exists.intro _ (And.intro (Res.tmp rfl Res.nil) ?_)
    exact ⟨_, [_], perm_l1 _ _ _, _, none, by rw [Nat.zero_add]; rfl, by simp, rfl⟩
set_option maxHeartbeats 1000000 in
theorem f67 {g : Gz} {M : Mem} {t : HsD} {bT : Nat} {p : List V} {f : Nat → Int} (h : HsF g t bT) (hp : SpOk t p f) : WF tbl g 67 [.ptr bT 0, .agg p] M fun v M' => M' = M ∧ ∃ k : Int, v = .int .i64 k := by
  obtain ⟨l0, l2, l3, l4, l5, l6⟩ := h.ld
  refine WF.trimS (WF.intro rfl (Nat.le_of_ble_eq_true rfl) ?_)
  repeat' first
    | (refine WC.forO (blk := 0) (n := 5) [0, 3, 7] (fun _ (q : Int) => [(4, .int .i64 q)]) (fun i _ M' => M' = (b3, Arr1 p {}) :: M) 0 (by decide) rfl (fun _ _ => rfl) (fun _ _ => rfl) (fun _ _ => rfl) (fun _ _ => rfl) ⟨rfl, rfl⟩ (subL.cons rfl (subL.nil _)) rfl ?_ ?_ <;> first | rintro i a M' hi rfl | rintro a M' rfl)
    | refine W1.box rfl hp.sc (fun b3 => ?_)
    | refine W1.ldAll rfl .here hp.1 ?_
    | refine W1.ixS rfl rfl (by omega) (by omega) (hp.at hi) ?_
    | refine W1.ldG rfl l5 ?_
    | (refine W1.iaRow0 (n := t.nF) rfl rfl h.ok.hF (by omega) (by have h3 := of_decide_eq_true ‹decide (0 < f i) = true›; have := (hp.2 i hi).2.2.2 (by omega); omega) (fun br o hrd => ?_); obtain ⟨nm', fa, fb, fc, fd, fe, hrf⟩ := h.ok.frow i ((hp.2 i hi).2.2.2 (by have h3 := of_decide_eq_true ‹decide (0 < f i) = true›; omega)); rw [show ((i : Int)).toNat = i from by omega, hrf] at hrd)
    | refine W1.ldR rfl ((hrd _).at 5 rfl) ?_
    | refine W1.addU rfl rfl (fun z => ?_)
    | exact ⟨_, _, [], rfl, by repeat (first | exact subL.nil _ | refine subL.cons rfl ?_), List.Perm.refl _, rfl⟩
    | refine WC.ret ?_
    | refine WC.seq ?_
    | refine WC.block ?_
    | refine WC.region ?_
    | refine WC.skip ?_
    | refine WC.cond rfl (fun hc => ?_) (fun hc => ?_)
    | refine WO.nil ?_
    | refine WO.cons ?_
    | refine W1.mv rfl ?_
    | refine W1.nilck rfl ?_
    | refine W1.fa rfl ?_
    | refine W1.gtr rfl rfl ?_
    | refine Exists.intro _ (And.intro (Res.tmp rfl Res.nil) ?_)
  exact ⟨by repeat (first | exact Suf.refl | apply Suf.cons), _, rfl⟩
end Go.Ax
end
section
namespace Go.Ax
open Go.Ax.Ir
theorem splC1 {x : V} {p : List V} {i : Nat} {vs : List V} : splice (x :: p) (0 + 1 + i * 1) vs = x :: splice p (0 + i * 1) vs := by
  simp [splice, Nat.add_comm 1 i]
  rw [show i + 1 + vs.length = (i + vs.length) + 1 by omega]; simp
theorem W1.stC1 {ft : FT FnR} {g : Gz} {L : Env} {M : Mem} {K : Env → Mem → Prop} {a x : Opd} {b i : Nat} {y w : V} {p : List V} {M' : Mem} (ha : lkO L a = some (.ptr b (0 + 1 + i * 1))) (hx : lkO L x = some w) (hw : w.cells = [w]) (hsc : w.scalar = true) (hi : i < p.length) (hu : Up M b (Arr1 (y :: p) {}) (Arr1 (y :: splice p (0 + i * 1) [w]) {}) M') (h : K L M') : W1 ft g ⟨none, .st 1 a x, none⟩ L M K :=
  W1.st ha hx (by rw [hw]; rfl) (by rw [hw]; simp [hsc]) (by rw [hw, splC1]; exact hu) (by simp; omega) h
abbrev Z6 : List V := [.int .i64 0, .int .i64 0, .int .i64 0, .int .i64 0, .int .i64 0, .int .i64 0]
theorem perm_60 (z x y a b c : Nat × BP) (l : Mem) : (z :: x :: y :: a :: b :: c :: l).Perm ([z, a, b, c] ++ (x :: y :: l)) :=
  List.Perm.cons z (List.perm_append_comm (l₁ := [x, y]) (l₂ := [a, b, c]) |>.append_right l)
def BT (t : HsD) (bT bR : Nat) : Nat × BP := (bT, Arr1 (t.cells ++ [.slice bR 0 2 (some 2) 2]) {})
def BU (bR : Nat) : Nat × BP := (bR, Arr1 RUL {})
attribute [local irreducible] W1 WO WC WD WF WV
def Pl60 (t : HsD) (M : Mem) (v : V) (M' : Mem) : Prop :=
  (∃ z e, v = .tup [.nilptr, .agg z, .int .i64 e] ∧ z.length = 6 ∧ IntL z ∧ e ≠ 0 ∧ M' = M) ∨
  (∃ bT bR lit p f, v = .tup [.ptr bT 0, .agg (.int .i64 lit :: p), .int .i64 0] ∧ HsVal t ∧ SpOk t p f ∧ M' = BT t bT bR :: BU bR :: M)
theorem Pl60.bad {t : HsD} {M M' R : Mem} {z : List V} {e : Int} (hm : M' = R ++ M) (hz : z.length = 6) (hi : IntL z) (he : e ≠ 0) : ∃ M1 R, M'.Perm (R ++ M1) ∧ Pl60 t M (.tup [.nilptr, .agg z, .int .i64 e]) M1 :=
  ⟨M, R, hm ▸ List.Perm.refl _, Or.inl ⟨z, e, rfl, hz, hi, he, rfl⟩⟩
theorem IntL.Z6 : IntL Z6 := fun v hv => by simp at hv; exact ⟨0, hv⟩
set_option maxHeartbeats 4000000 in
theorem f60 {g : Gz} {M : Mem} {t : HsD} {sp : V} {np : Nat} {pl : Nat → Int} {lit : Int} (ok : HsOk g t) (hs : Slc g [] sp np 1 fun i _ => .int .i64 (pl i)) (hsc : sp.scalar = true) (hnp : np ≤ 1000000000) :
    WF tbl g 60 [.agg t.cells, .agg [.int .i64 lit, sp]] M (Pl60 t M) := by
  have hpp := ok.nP
  refine WF.trim (WF.intro rfl (Nat.le_of_ble_eq_true rfl) ?_)
  repeat' first
    | exact ⟨_, Res.tmp rfl (Res.cell rfl (.there (.there .here)) (rdB_all rfl) (Res.tmp rfl Res.nil)), Pl60.bad (R := [_, _, _, _, _]) rfl rfl IntL.Z6 (by simpa using hc)⟩
    | exact ⟨_, Res.tmp rfl (Res.cell rfl (.there (.there (.there .here))) (rdB_all rfl) (Res.tmp rfl Res.nil)), Pl60.bad (R := [_, _, _, _, _, _]) rfl rfl IntL.Z6 (by decide)⟩
    | refine W1.box (d := 2) rfl ok.sc7 (fun b2 => ?_)
    | refine W1.box (d := 3) rfl (by simp [V.cells, hsc]; rfl) (fun b3 => ?_)
    | refine W1.alloc (d := 5) rfl (fun b5 => ?_)
    | refine W1.ldAll rfl (.there (.there .here)) rfl (conjR (ReC.ldAll rfl rfl (.there (.there .here)) rfl) (by simp) ?_)
    | refine W1.ldAll rfl (.there (.there .here)) rfl ?_
    | refine W1.ldAll rfl (.there (.there (.there .here))) rfl (conjR (ReC.ldAll rfl rfl (.there (.there (.there .here))) rfl) (by simp) ?_)
    | (refine W1.callV rfl rfl (WV.func ((f56 ok).mono fun v M' => ?_)); rintro ⟨bT, bR, e, rfl, hv, rfl⟩)
    | refine WC.ret ?_
    | refine WC.cond (c := .t 14) rfl (fun hc => ?_) (fun he0 => ?_)
    | refine WC.cond (c := .t 29) rfl (fun hc => ?_) (fun hnf => ?_)
    | refine WC.block (id := 0) ?_
    | refine WC.seq ?_
    | refine WC.region ?_
    | refine WC.draw ?_
    | refine WC.skip ?_
    | refine WC.cond rfl (fun hc => ?_) (fun hc => ?_)
    | refine WO.nil ?_
    | refine WO.cons ?_
    | refine WD.nil ?_
    | refine WD.cons0 ?_
    | refine WD.consH ?_
    | refine WD.consR ?_
    | refine W1.mv rfl ?_
    | refine W1.fa rfl ?_
    | refine W1.ext rfl rfl ?_
    | refine W1.neq rfl rfl ?_
    | refine W1.bldS rfl rfl rfl (fun bb => ?_)
    | refine W1.stAll rfl rfl rfl rfl rfl (.there (.there .here)) ?_
    | refine W1.stAll rfl rfl rfl rfl rfl (.there (.there (.there .here))) ?_
    | refine W1.ldS rfl (.there (.there (.there .here))) rfl (conjR (ReC.ldS rfl rfl (.there (.there (.there .here))) rfl) (by simp) ?_)
    | refine W1.ldS rfl (.there (.there (.there (.there .here)))) rfl (conjR (ReC.ldS rfl rfl (.there (.there (.there (.there .here)))) rfl) (by simp) ?_)
    | refine W1.ldS rfl (.there (.there (.there (.there .here)))) rfl ?_
    | refine W1.ldS rfl (.there (.there (.there (.there (.there .here))))) rfl ?_
    | refine W1.lenSlc rfl hs.up ?_
    | refine W1.lenSlc rfl ok.hP.up.1 ?_
    | refine W1.lenSlc rfl ok.hF.up.1 ?_
    | refine W1.shlU rfl rfl (by have := (hv (by simpa using ‹(!decide (e = 0)) = false›)).st; omega) (fun q => ?_)
    | (refine W1.callV rfl rfl (WV.func ((f42one .here).mono fun v M' => ?_)); rintro ⟨rfl, tt, rfl, ht⟩)
    | (refine W1.callV rfl rfl (WV.func ((f42 hs.up (by omega)).mono fun v M' => ?_)); rintro ⟨rfl, tq, rfl, htq⟩)
    | refine W1.sub rfl rfl (by omega) (by omega) ?_
    | refine W1.subU rfl rfl (fun q => ?_)
    | refine W1.st rfl rfl rfl rfl (.there (.there (.there .here))) (Nat.le_of_ble_eq_true rfl) ?_
  refine WC.forO (blk := 1) (n := np) [2, 3, 4, 5, 6, 51, 52] (fun _ (_ : Unit) => []) (fun i _ M' => ∃ p f, SpOk t p f ∧ M' = (bb, Arr1 [.int .i64 lit] {}) :: BT t bT bR :: BU bR :: (b5, Arr1 (.int .i64 lit :: p) {}) :: (b3, Arr1 [.int .i64 lit, sp] {}) :: (b2, Arr1 t.cells {}) :: M) () (by omega) rfl (fun _ _ => rfl) (fun _ _ => rfl) (fun _ _ => rfl) (fun _ _ => rfl) ⟨rfl, rfl⟩ (subL.nil _) ⟨_, _, SpOk.zero, rfl⟩ ?_ ?_
  · rintro i a M' hi ⟨p, f, hp, rfl⟩
    have hl := hp.1
    have hl6 : (V.int .i64 lit :: p).length = 6 := by simp [hl]
    have hq := htq (by assumption) ((i : Int)).toNat (by omega)
    have hnn : (np : Int) = t.nF := by simpa using hnf
    have h5 : t.nF ≤ 5 := (hv (by simpa using he0)).nF
    have hi5 : (i : Int) < 5 := by omega
    have hp2 := hp.set (i := ((i : Int)).toNat) (x := pl ((i : Int)).toNat + 1) (by omega) (hv (by simpa using he0)).nF (by omega) (by omega)
    repeat' first
      | exact ⟨_, Res.tmp rfl (Res.cell rfl (.there (.there (.there .here))) (rdB_all rfl) (Res.tmp rfl Res.nil)), Pl60.bad (R := [_, _, _, _, _, _]) rfl rfl IntL.Z6 (by decide)⟩
      | exact ⟨(), _, [], rfl, by repeat (first | exact subL.nil _ | refine subL.cons rfl ?_), List.Perm.refl _, _, _, hp2, rfl⟩
      | refine W1.iaSlc rfl rfl hs.up (by omega) (by omega) (fun b o hrd => ?_)
      | refine W1.ldR rfl (hrd 0 (by omega)) ?_
      | refine W1.slcTo rfl rfl hs.up (by omega) (by omega) (fun s' hs' => ?_)
      | (refine W1.callV rfl rfl (WV.func ((f87 hs' (by omega)).mono fun v M' => ?_)); rintro ⟨rfl, tk, rfl⟩)
      | refine W1.stAll rfl rfl rfl hl6 rfl (.there (.there (.there .here))) ?_
      | refine W1.iaa rfl rfl (by omega) (by omega) ?_
      | refine W1.stC1 rfl rfl rfl rfl (by omega) (.there (.there (.there .here))) ?_
      | refine WC.ret ?_
      | refine WC.cond_f rfl (by first | assumption | rfl) ?_
      | refine WC.seq ?_
      | refine WC.block ?_
      | refine WC.region ?_
      | refine WC.skip ?_
      | refine WC.cond rfl (fun hc => ?_) (fun hc => ?_)
      | refine WO.nil ?_
      | refine WO.cons ?_
      | refine W1.guard_y rfl (by first | assumption | rfl) ?_
      | refine W1.guard_n rfl (by first | assumption | rfl) ?_
      | refine W1.guard rfl (fun hc => ?_) (fun hc => ?_)
      | refine W1.pick_t rfl (by first | assumption | rfl) rfl ?_
      | refine W1.pick_f rfl (by first | assumption | rfl) rfl ?_
      | refine W1.mv rfl ?_
      | refine W1.fa rfl ?_
      | refine W1.neq rfl rfl ?_
      | refine W1.bld rfl rfl ?_
      | refine W1.ldS rfl (.there (.there (.there (.there .here)))) rfl ?_
      | refine W1.add rfl rfl (by omega) (by omega) ?_
  · rintro a M' ⟨p, f, hp, rfl⟩
    have hl6 : (V.int .i64 lit :: p).length = 6 := by simp [hp.1]
    have hsA : (V.int .i64 lit :: p).all V.scalar = true := by have h6 := hp.sc; simp only [V.cells, List.all_eq_true] at h6; simp only [List.all_cons, Bool.and_eq_true, List.all_eq_true]; exact ⟨rfl, h6⟩
    repeat' first
      | exact ⟨_, Res.tmp rfl (Res.cell rfl (.there (.there (.there .here))) (rdB_all hl6) (Res.tmp rfl Res.nil)), _, _, perm_60 _ _ _ _ _ _ _, Or.inr ⟨_, _, lit, p, f, rfl, hv (by simpa using he0), hp, rfl⟩⟩
      | refine W1.stAll rfl rfl hl6 hl6 hsA (.there (.there (.there .here))) ?_
      | refine W1.ldAll rfl (.there (.there (.there .here))) hl6 (conjR (ReC.ldAll rfl rfl (.there (.there (.there .here))) hl6) (by simp) ?_)
      | refine WC.ret ?_
      | refine WC.seq ?_
      | refine WC.draw ?_
      | refine WD.nil ?_
      | refine WD.cons0 ?_
      | refine WD.consH ?_
      | refine WD.consR ?_
      | refine W1.mv rfl ?_
end Go.Ax
end
