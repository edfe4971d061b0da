import Derived.Test.YtbgnifoklhediaaGreatDoorA7
import Derived.Test.YtbgnifoklhediaaGreatDoorB
import Derived.Test.YtbgnifoklhediaaGreatDoorE1
set_option linter.unusedSectionVars false
set_option linter.unusedVariables false
set_option linter.unusedSimpArgs false
section
namespace Go.Ax
open Go.Ax.Ir
theorem f70 {g : Gz} {n lo hi : Int} {bl bh : Nat} {M M1 M2 : Mem} (h1 : At M bl (Arr1 [.int .i64 lo] {}) M1) (h2 : At M bh (Arr1 [.int .i64 hi] {}) M2) :
    WF tbl g 70 [.int .i64 n, .ptr bl 0, .ptr bh 0] M fun v M' => M' = M ∧ ∃ t, v = .bool t ∧ (t = false → lo ≤ n ∧ n ≤ hi) := by
  refine WF.intro rfl (Nat.le_of_ble_eq_true rfl) ?_
  repeat' first
    | refine WC.seq ?_
    | refine WC.region ?_
    | refine WC.ret ?_
    | refine WO.nil ?_
    | refine WO.cons ?_
    | refine W1.mv rfl ?_
    | refine W1.ldS rfl h1 rfl ?_
    | refine W1.ldS rfl h2 rfl ?_
    | refine W1.lss rfl rfl ?_
    | refine W1.gtr rfl rfl ?_
    | refine W1.guard_y rfl (by assumption) ?_
    | refine W1.guard_n rfl (by assumption) ?_
    | refine W1.guard rfl (fun hc => ?_) (fun hc => ?_)
    | refine W1.pick_t rfl (by assumption) rfl ?_
    | refine W1.pick_f rfl (by assumption) rfl ?_
    | refine Exists.intro _ (And.intro (Res.tmp rfl Res.nil) ?_)
  · exact ⟨rfl, _, rfl, fun h => by simp at h hc; omega⟩
  · exact ⟨rfl, _, rfl, fun h => by cases h⟩
theorem f88 {g : Gz} {M : Mem} {s fv : V} {n : Nat} {el : Nat → Nat → V} {R : Nat → Bool → Prop} (hs : Slc g M s n 1 el) (hn : n ≤ 1000000000000)
    (hf : ∀ i, i < n → WV tbl g fv [el i 0] M fun v M' => M' = M ∧ ∃ t, v = .bool t ∧ R i t) :
    WF tbl g 88 [s, fv] M fun v M' => M' = M ∧ ∃ k : Int, v = .int .i64 k ∧ (k < 0 → ∀ i, i < n → R i false) := by
  refine WF.intro rfl (Nat.le_of_ble_eq_true rfl) ?_
  refine WC.seq (WC.region (WO.cons (W1.mv rfl (WO.nil ?_))))
  refine WC.seq (WC.seq (WC.region (WO.cons (W1.mv rfl (WO.cons (W1.lenSlc rfl hs (WO.cons (W1.mv rfl (WO.nil ?_)))))))))
  refine WC.block ?_
  refine WC.loopE (ι := Int) (fun i => (n - i).toNat) (fun i => [(0, s), (1, fv), (7, .int .i64 n), (8, .int .i64 i)]) (fun i M' => 0 ≤ i ∧ i ≤ n ∧ M' = M ∧ ∀ j : Nat, (j : Int) < i → R j false) ?_ 0 _ _
    (by repeat (first | exact subL.nil _ | refine subL.cons rfl ?_)) ⟨by omega, by omega, rfl, fun j h => by omega⟩
  rintro i M' ⟨h0, h1, rfl, hR⟩
  repeat' first
    | refine WC.seq ?_
    | refine WC.block ?_
    | refine WC.region ?_
    | refine WC.skip ?_
    | refine WC.exit ?_
    | refine WC.ret ?_
    | refine WC.cond rfl (fun hc => ?_) (fun hc => ?_)
    | refine WO.nil ?_
    | refine WO.cons ?_
    | refine W1.mv rfl ?_
    | refine W1.lss rfl rfl ?_
    | refine W1.add rfl rfl (by omega) (by omega) ?_
    | refine W1.iaSlc rfl rfl hs (by omega) (by have := of_decide_eq_true ‹decide _ = true›; omega) (fun b o hrd => ?_)
    | refine W1.ldR rfl (hrd 0 (by omega)) ?_
    | (refine W1.callV rfl rfl ((hf i.toNat (by have := of_decide_eq_true ‹decide _ = true›; omega)).mono fun v M' => ?_); rintro ⟨rfl, t, rfl, ht⟩)
    | refine Exists.intro _ (And.intro (Res.tmp rfl Res.nil) ?_)
  · exact ⟨rfl, i, rfl, fun h => by omega⟩
  · have hlt := of_decide_eq_true ‹decide (i < (n : Int)) = true›
    refine ⟨i + 1, by omega, by repeat (first | exact subL.nil _ | refine subL.cons rfl ?_), by omega, by omega, rfl, fun j hj => ?_⟩
    by_cases hji : (j : Int) < i
    · exact hR j hji
    · have : j = i.toNat := by omega
      subst this
      exact hc ▸ ht
  · have hge := of_decide_eq_false hc
    exact ⟨rfl, -1, rfl, fun _ j hj => hR j (by omega)⟩
theorem f69 {g : Gz} {M : Mem} {s fv : V} {n : Nat} {el : Nat → Nat → V} {R : Nat → Bool → Prop} (hs : Slc g M s n 1 el) (hn : n ≤ 1000000000000)
    (hf : ∀ i, i < n → WV tbl g fv [el i 0] M fun v M' => M' = M ∧ ∃ t, v = .bool t ∧ R i t) :
    WF tbl g 69 [s, fv] M fun v M' => M' = M ∧ ∃ t, v = .bool t ∧ (t = false → ∀ i, i < n → R i false) := by
  refine WF.intro rfl (Nat.le_of_ble_eq_true rfl) ?_
  repeat' first
    | refine WC.seq ?_
    | refine WC.region ?_
    | refine WC.ret ?_
    | refine WO.nil ?_
    | refine WO.cons ?_
    | refine W1.mv rfl ?_
    | refine W1.geq rfl rfl ?_
    | (refine W1.callV rfl rfl (WV.func ((f88 hs hn hf).mono fun v M' => ?_)); rintro ⟨rfl, k, rfl, hk⟩)
    | refine Exists.intro _ (And.intro (Res.tmp rfl Res.nil) ?_)
  exact ⟨rfl, _, rfl, fun h => hk (by simp at h; omega)⟩
theorem f38 {g : Gz} {M : Mem} {s : V} {n : Nat} {lo hi : Int} {num : Nat → Int} (hs : Slc g M s n 1 fun i _ => .int .i64 (num i)) (hn : n ≤ 1000000000000) :
    WF tbl g 38 [.int .i64 lo, .int .i64 hi, s] M fun v M' => M' = M ∧ ∃ t, v = .bool t ∧ (t = false → ∀ i, i < n → lo ≤ num i ∧ num i ≤ hi) := by
  refine WF.intro rfl (Nat.le_of_ble_eq_true rfl) ?_
  repeat' first
    | refine WC.seq ?_
    | refine WC.region ?_
    | refine WC.drop ((List.sublist_cons_self _ _).trans (List.sublist_cons_self _ _)) (WC.ret ?_)
    | refine WO.nil ?_
    | refine WO.cons ?_
    | refine W1.mv rfl ?_
    | refine W1.box rfl rfl (fun b => ?_)
    | refine W1.mkfn rfl rfl ?_
    | (refine W1.callV rfl rfl (WV.func ((f69 hs.cons.cons hn (R := fun i t => t = false → lo ≤ num i ∧ num i ≤ hi) (fun i hi => WV.func (f70 (.there .here) .here))).mono fun v M' => ?_)); rintro ⟨rfl, t, rfl, ht⟩)
    | refine Exists.intro _ (And.intro (Res.tmp rfl Res.nil) ?_)
  exact ⟨rfl, _, rfl, fun h i hi => ht h i hi rfl⟩
end Go.Ax
end
section
namespace Go.Ax
open Go.Ax.Ir
attribute [local irreducible] W1 WO WC WD WF WV
theorem f41 {g : Gz} {s : List UInt8} : WF tbl g 41 [.str s] [] fun v M' => M' = [] ∧ ∃ t, v = .bool t := by
  refine WF.intro rfl (Nat.le_of_ble_eq_true rfl) ?_
  refine WC.seq (WC.region (WO.cons (W1.mv rfl (WO.nil ?_))))
  refine WC.seq (WC.seq (WC.region (WO.cons (W1.mv rfl (WO.cons (W1.rng rfl fun b => WO.nil ?_))))))
  refine WC.block ?_
  refine WC.loopE (ι := Nat) (fun i => s.length - i) (fun _ => [(0, .str s), (7, .ptr b 0)]) (fun i M' => M' = [(b, IterAt s i)]) ?_ 0 _ _
    (by repeat (first | exact subL.nil _ | refine subL.cons rfl ?_)) rfl
  rintro i M' rfl
  repeat' first
    | refine WC.seq ?_
    | refine WC.block ?_
    | refine WC.region ?_
    | refine WC.skip ?_
    | refine WC.exit ?_
    | refine WC.drop (List.nil_sublist _) (WC.ret ?_)
    | refine WC.cond_t rfl (by first | assumption | rfl) ?_
    | refine WC.cond_f rfl (by first | assumption | rfl) ?_
    | refine WC.cond rfl (fun hc => ?_) (fun hc => ?_)
    | refine WO.nil ?_
    | refine WO.cons ?_
    | refine W1.mv rfl ?_
    | refine W1.nxt rfl (fun w => .here) (fun hlt c w hw => ?_) (fun hge => ?_)
    | refine W1.ext rfl rfl ?_
    | refine W1.lss rfl rfl ?_
    | refine W1.gtr rfl rfl ?_
    | refine W1.leq rfl rfl ?_
    | refine W1.eql rfl rfl ?_
    | refine W1.neq rfl rfl ?_
    | refine W1.not rfl ?_
    | refine W1.lenS rfl ?_
    | refine W1.cmpS rfl rfl (by simp) rfl (fun t _ => ?_)
    | refine W1.guard_u rfl ?_
    | refine W1.guard_y rfl (by first | assumption | rfl) ?_
    | refine W1.guard_n rfl (by first | assumption | rfl) ?_
    | refine W1.guard rfl (fun hc => ?_) (fun hc => ?_)
    | refine W1.pick_t rfl (by first | assumption | rfl) rfl ?_
    | refine W1.pick_f rfl (by first | assumption | rfl) rfl ?_
    | refine Exists.intro _ (And.intro (Res.tmp rfl Res.nil) ?_)
  all_goals first
    | exact ⟨rfl, _, rfl⟩
    | exact ⟨w, by omega, by repeat (first | exact subL.nil _ | refine subL.cons rfl ?_), rfl⟩
end Go.Ax
end
section
namespace Go.Ax
open Go.Ax.Ir
attribute [local irreducible] W1 WO WC WD WF WV
theorem f108 {g : Gz} {M : Mem} {a : Int} : WF tbl g 108 [.int .i64 a] M fun v M' => M' = M ∧ v = .bool false := by
  refine WF.intro rfl (Nat.le_of_ble_eq_true rfl) ?_
  repeat' first
    | refine WC.ret ?_
    | refine WC.seq ?_
    | refine WC.region ?_
    | refine WO.nil ?_
    | refine WO.cons ?_
    | refine W1.mv rfl ?_
    | refine W1.neq rfl rfl ?_
    | refine Exists.intro _ (And.intro (Res.tmp rfl Res.nil) ?_)
  exact ⟨rfl, by simp [packR]⟩
theorem f92 {g : Gz} {M : Mem} {a b : Int} : WF tbl g 92 [.int .i64 a, .int .i64 b] M fun v M' => M' = M ∧ ∃ k : Int, v = .int .i64 k := by
  refine WF.intro rfl (Nat.le_of_ble_eq_true rfl) ?_
  repeat' first
    | refine WC.ret ?_
    | (refine W1.callV rfl rfl (WV.func (f108.mono fun v M' => ?_)); rintro ⟨rfl, rfl⟩)
    | refine WC.seq ?_
    | refine WC.region ?_
    | refine WC.skip ?_
    | refine WC.cond_f rfl (by first | assumption | rfl) ?_
    | refine WC.cond rfl (fun hc => ?_) (fun hc => ?_)
    | refine WO.nil ?_
    | refine WO.cons ?_
    | refine W1.mv rfl ?_
    | refine W1.lss rfl rfl ?_
    | refine W1.gtr rfl rfl ?_
    | refine Exists.intro _ (And.intro (Res.tmp rfl Res.nil) ?_)
  all_goals exact ⟨rfl, _, rfl⟩
theorem f80 {g : Gz} {M : Mem} {s s2 : V} {n m : Nat} {num num2 : Nat → Int} (hs : Slc g M s n 1 fun i _ => .int .i64 (num i)) (hs2 : Slc g M s2 m 1 fun i _ => .int .i64 (num2 i)) (hn : n ≤ 1000000000000) :
    WF tbl g 80 [s, s2] M fun v M' => M' = M ∧ ∃ k : Int, v = .int .i64 k := by
  refine WF.intro rfl (Nat.le_of_ble_eq_true rfl) ?_
  refine WC.seq (WC.region (WO.cons (W1.mv rfl (WO.nil ?_))))
  refine WC.seq (WC.seq (WC.region (WO.cons (W1.mv rfl (WO.cons (W1.lenSlc rfl hs (WO.cons (W1.mv rfl (WO.nil ?_)))))))))
  refine WC.block ?_
  refine WC.loopE (ι := Int) (fun i => (n - i).toNat) (fun i => [(0, s), (1, s2), (9, s), (10, .int .i64 n), (11, .int .i64 i)]) (fun i M' => 0 ≤ i ∧ i ≤ n ∧ M' = M) ?_ 0 _ _
    (by repeat (first | exact subL.nil _ | refine subL.cons rfl ?_)) ⟨by omega, by omega, rfl⟩
  rintro i M' ⟨h0, h1, rfl⟩
  repeat' first
    | refine W1.iaSlc rfl rfl hs (by omega) (by have := of_decide_eq_true ‹decide _ = true›; omega) (fun b o hrd => ?_)
    | refine W1.iaSlc rfl rfl hs2 (by omega) (by have := of_decide_eq_false ‹decide ((m : Int) ≤ i) = false›; omega) (fun b o hrd => ?_)
    | refine W1.ldR rfl (hrd 0 (by omega)) ?_
    | refine W1.lenSlc rfl hs ?_
    | refine W1.lenSlc rfl hs2 ?_
    | (refine W1.callV rfl rfl (WV.func (f92.mono fun v M' => ?_)); rintro ⟨rfl, k, rfl⟩)
    | refine WC.ret ?_
    | refine WC.seq ?_
    | refine WC.block ?_
    | refine WC.region ?_
    | refine WC.skip ?_
    | refine WC.exit ?_
    | refine WC.cond rfl (fun hc => ?_) (fun hc => ?_)
    | refine WO.nil ?_
    | refine WO.cons ?_
    | refine W1.mv rfl ?_
    | refine W1.lss rfl rfl ?_
    | refine W1.geq rfl rfl ?_
    | refine W1.neq rfl rfl ?_
    | refine Exists.intro _ (And.intro (Res.tmp rfl Res.nil) ?_)
    | refine W1.add rfl rfl (by omega) (by omega) ?_
  all_goals try exact ⟨rfl, _, rfl⟩
  have hlt := of_decide_eq_true ‹decide (i < (n : Int)) = true›
  exact ⟨i + 1, by omega, by repeat (first | exact subL.nil _ | refine subL.cons rfl ?_), by omega, by omega, rfl⟩
end Go.Ax
end
section
namespace Go.Ax
open Go.Ax.Ir
theorem WV.less {ft : FT FnR} {g : Gz} {f : V} {args : List V} {M M' : Mem} {K : V → Mem → Prop} (hs : M'.Sublist M) (h : WV ft g f args M' K) : WV ft g f args M K := by
  intro hh hsat
  obtain ⟨n, v, h', M1, h1, h2, h3, h4⟩ := h hh (hsat.sub hs)
  exact ⟨n, v, h', M1, h1, h2, ⟨h3.n, fun b hb hn => h3.keep b hb fun p hp => hn p (hs.subset hp), fun p hp => by
    rcases h3.from_ p hp with ⟨p0, q1, q2⟩ | q1
    · exact Or.inl ⟨p0, hs.subset q1, q2⟩
    · exact Or.inr q1⟩, h4⟩
theorem splAll {Z p : List V} (h : p.length = Z.length) : splice Z 0 p = p := by simp [splice, h]
theorem W1.stAll {ft : FT FnR} {g : Gz} {L : Env} {M : Mem} {K : Env → Mem → Prop} {a x : Opd} {b e : Nat} {Z p : List V} {M' : Mem} (ha : lkO L a = some (.ptr b 0)) (hx : lkO L x = some (.agg p)) (hn : p.length = e) (hz : Z.length = e) (hsc : p.all V.scalar = true) (hu : Up M b (Arr1 Z {}) (Arr1 p {}) M') (h : K L M') : W1 ft g ⟨none, .st e a x, none⟩ L M K :=
  W1.st ha hx hn hsc (by rw [show (V.agg p).cells = p from rfl, splAll (hn.trans hz.symm)]; exact hu) (by rw [hz]; omega) h
attribute [local irreducible] W1 WO WC WD WF WV
theorem f39 {g : Gz} {M : Mem} {s fv : V} {n : Nat} {row : Nat → List V} (hs : SlcR g M s n 6 row) (hn : n ≤ 1000000000000) (hsc : ∀ i, i < n → (row i).all V.scalar = true)
    (hf : ∀ i, i < n → WV tbl g fv [.int .i64 i, .agg (row i)] M fun v M' => M' = M ∧ ∃ e, v = .int .i64 e) :
    WF tbl g 39 [s, fv] M fun v M' => M' = M ∧ ∃ a e, v = .tup [.int .i64 a, .int .i64 e] := by
  refine WF.intro rfl (Nat.le_of_ble_eq_true rfl) ?_
  repeat' first
    | refine W1.lenSlc rfl hs.1 ?_
    | (refine WC.forR (n := n) [1, 9, 10] (fun _ (_ : Unit) => []) (fun i _ M' => M' = M) () hn rfl (fun _ _ => rfl) (fun _ _ => rfl) (fun _ _ => rfl) (fun _ _ => rfl) ⟨rfl, rfl⟩ (subL.nil _) rfl ?_ ?_ <;> first | rintro i a M' hi rfl | rintro a M' rfl)
    | refine W1.iaRow rfl rfl hs (by omega) (by omega) (fun b o hrd => ?_)
    | refine W1.ldV (vs := row i) rfl (hs.2.2 i hi) hrd ?_
    | refine W1.stAll rfl rfl (hs.2.2 i hi) rfl (hsc i hi) .here ?_
    | refine W1.ldAll rfl .here (hs.2.2 i hi) ?_
    | (refine W1.callV rfl rfl (WV.less (List.sublist_cons_self _ _) ((hf i hi).mono fun v M' => ?_)); rintro ⟨rfl, e, rfl⟩)
    | exact ⟨(), _, [], rfl, by repeat (first | exact subL.nil _ | refine subL.cons rfl ?_), List.Perm.refl _, rfl⟩
    | exact ⟨rfl, _, _, rfl⟩
    | refine WC.ret ?_
    | refine WC.seq ?_
    | refine WC.block ?_
    | refine WC.region ?_
    | refine WC.skip ?_
    | refine WC.cond rfl (fun hc => ?_) (fun hc => ?_)
    | refine WO.nil ?_
    | refine WO.cons ?_
    | refine W1.mv rfl ?_
    | refine W1.neq rfl rfl ?_
    | refine W1.alloc rfl (fun bb => ?_)
    | refine Exists.intro _ (And.intro (Res.tmp rfl (Res.tmp rfl Res.nil)) ?_)
theorem f71 {g : Gz} {M : Mem} {s fv : V} {n : Nat} {row : Nat → List V} (hs : SlcR g M s n 6 row) (hn : n ≤ 1000000000000)
    (hf : ∀ i, i < n → WV tbl g fv [.agg (row i)] M fun v M' => M' = M ∧ ∃ t, v = .bool t) :
    WF tbl g 71 [s, fv] M fun v M' => M' = M ∧ ∃ k : Int, v = .int .i64 k := by
  refine WF.intro rfl (Nat.le_of_ble_eq_true rfl) ?_
  repeat' first
    | refine W1.lenSlc rfl hs.1 ?_
    | (refine WC.forR (n := n) [0, 1, 6, 7] (fun _ (_ : Unit) => []) (fun i _ M' => M' = M) () hn rfl (fun _ _ => rfl) (fun _ _ => rfl) (fun _ _ => rfl) (fun _ _ => rfl) ⟨rfl, rfl⟩ (subL.nil _) rfl ?_ ?_ <;> first | rintro i a M' hi rfl | rintro a M' rfl)
    | refine W1.iaRow rfl rfl hs (by omega) (by omega) (fun b o hrd => ?_)
    | refine W1.ldV (vs := row i) rfl (hs.2.2 i hi) hrd ?_
    | (refine W1.callV rfl rfl ((hf i hi).mono fun v M' => ?_); rintro ⟨rfl, e, rfl⟩)
    | refine WC.ret ?_
    | refine WC.seq ?_
    | refine WC.block ?_
    | refine WC.region ?_
    | refine WC.skip ?_
    | refine WC.cond rfl (fun hc => ?_) (fun hc => ?_)
    | refine WO.nil ?_
    | refine WO.cons ?_
    | refine W1.mv rfl ?_
    | refine Exists.intro _ (And.intro (Res.tmp rfl Res.nil) ?_)
  · exact ⟨rfl, _, rfl⟩
  · exact ⟨(), _, [], rfl, by repeat (first | exact subL.nil _ | refine subL.cons rfl ?_), List.Perm.refl _, rfl⟩
  · exact ⟨rfl, _, rfl⟩
theorem f42 {g : Gz} {M : Mem} {s fv : V} {n : Nat} {row : Nat → List V} (hs : SlcR g M s n 6 row) (hn : n ≤ 1000000000000)
    (hf : ∀ i, i < n → WV tbl g fv [.agg (row i)] M fun v M' => M' = M ∧ ∃ t, v = .bool t) :
    WF tbl g 42 [s, fv] M fun v M' => M' = M ∧ ∃ t, v = .bool t := by
  refine WF.intro rfl (Nat.le_of_ble_eq_true rfl) ?_
  repeat' first
    | (refine W1.callV rfl rfl (WV.func ((f71 hs hn hf).mono fun v M' => ?_)); rintro ⟨rfl, k, rfl⟩)
    | refine WC.ret ?_
    | refine WC.seq ?_
    | refine WC.region ?_
    | refine WO.nil ?_
    | refine WO.cons ?_
    | refine W1.mv rfl ?_
    | refine W1.geq rfl rfl ?_
    | refine Exists.intro _ (And.intro (Res.tmp rfl Res.nil) ?_)
  exact ⟨rfl, _, rfl⟩
end Go.Ax
end
section
namespace Go.Ax
open Go.Ax.Ir
attribute [local irreducible] W1 WO WC WD WF WV
theorem f44 {g : Gz} {M : Mem} {s fv : V} {n : Nat} {row : Nat → List V} (hs : SlcR g M s n 6 row) (hn : n ≤ 1000000000000) (hsc : ∀ i, i < n → (row i).all V.scalar = true)
    (hf : ∀ i, i < n → WV tbl g fv [.int .i64 i, .agg (row i)] M fun v M' => M' = M ∧ ∃ e, v = .int .i64 e) :
    WF tbl g 44 [s, fv] M fun v M' => M' = M ∧ ∃ a e, v = .tup [.int .i64 a, .int .i64 e] := by
  refine WF.intro rfl (Nat.le_of_ble_eq_true rfl) ?_
  repeat' first
    | refine W1.lenSlc rfl hs.1 ?_
    | (refine WC.forR (n := n) [1, 9, 10] (fun _ (_ : Unit) => []) (fun i _ M' => M' = M) () hn rfl (fun _ _ => rfl) (fun _ _ => rfl) (fun _ _ => rfl) (fun _ _ => rfl) ⟨rfl, rfl⟩ (subL.nil _) rfl ?_ ?_ <;> first | rintro i a M' hi rfl | rintro a M' rfl)
    | refine W1.iaRow rfl rfl hs (by omega) (by omega) (fun b o hrd => ?_)
    | refine W1.ldV (vs := row i) rfl (hs.2.2 i hi) hrd ?_
    | refine W1.stAll rfl rfl (hs.2.2 i hi) rfl (hsc i hi) .here ?_
    | refine W1.ldAll rfl .here (hs.2.2 i hi) ?_
    | (refine W1.callV rfl rfl (WV.less (List.sublist_cons_self _ _) ((hf i hi).mono fun v M' => ?_)); rintro ⟨rfl, e, rfl⟩)
    | exact ⟨(), _, [], rfl, by repeat (first | exact subL.nil _ | refine subL.cons rfl ?_), List.Perm.refl _, rfl⟩
    | exact ⟨rfl, _, _, rfl⟩
    | refine WC.ret ?_
    | refine WC.seq ?_
    | refine WC.block ?_
    | refine WC.region ?_
    | refine WC.skip ?_
    | refine WC.cond rfl (fun hc => ?_) (fun hc => ?_)
    | refine WO.nil ?_
    | refine WO.cons ?_
    | refine W1.mv rfl ?_
    | refine W1.neq rfl rfl ?_
    | refine W1.alloc rfl (fun bb => ?_)
    | refine Exists.intro _ (And.intro (Res.tmp rfl (Res.tmp rfl Res.nil)) ?_)
theorem f72 {g : Gz} {M : Mem} {s fv : V} {n : Nat} {row : Nat → List V} (hs : SlcR g M s n 6 row) (hn : n ≤ 1000000000000)
    (hf : ∀ i, i < n → WV tbl g fv [.agg (row i)] M fun v M' => M' = M ∧ ∃ t, v = .bool t) :
    WF tbl g 72 [s, fv] M fun v M' => M' = M ∧ ∃ k : Int, v = .int .i64 k := by
  refine WF.intro rfl (Nat.le_of_ble_eq_true rfl) ?_
  repeat' first
    | refine W1.lenSlc rfl hs.1 ?_
    | (refine WC.forR (n := n) [0, 1, 6, 7] (fun _ (_ : Unit) => []) (fun i _ M' => M' = M) () hn rfl (fun _ _ => rfl) (fun _ _ => rfl) (fun _ _ => rfl) (fun _ _ => rfl) ⟨rfl, rfl⟩ (subL.nil _) rfl ?_ ?_ <;> first | rintro i a M' hi rfl | rintro a M' rfl)
    | refine W1.iaRow rfl rfl hs (by omega) (by omega) (fun b o hrd => ?_)
    | refine W1.ldV (vs := row i) rfl (hs.2.2 i hi) hrd ?_
    | (refine W1.callV rfl rfl ((hf i hi).mono fun v M' => ?_); rintro ⟨rfl, e, rfl⟩)
    | refine WC.ret ?_
    | refine WC.seq ?_
    | refine WC.block ?_
    | refine WC.region ?_
    | refine WC.skip ?_
    | refine WC.cond rfl (fun hc => ?_) (fun hc => ?_)
    | refine WO.nil ?_
    | refine WO.cons ?_
    | refine W1.mv rfl ?_
    | refine Exists.intro _ (And.intro (Res.tmp rfl Res.nil) ?_)
  · exact ⟨rfl, _, rfl⟩
  · exact ⟨(), _, [], rfl, by repeat (first | exact subL.nil _ | refine subL.cons rfl ?_), List.Perm.refl _, rfl⟩
  · exact ⟨rfl, _, rfl⟩
theorem f46 {g : Gz} {M : Mem} {s fv : V} {n : Nat} {row : Nat → List V} (hs : SlcR g M s n 6 row) (hn : n ≤ 1000000000000)
    (hf : ∀ i, i < n → WV tbl g fv [.agg (row i)] M fun v M' => M' = M ∧ ∃ t, v = .bool t) :
    WF tbl g 46 [s, fv] M fun v M' => M' = M ∧ ∃ t, v = .bool t := by
  refine WF.intro rfl (Nat.le_of_ble_eq_true rfl) ?_
  repeat' first
    | (refine W1.callV rfl rfl (WV.func ((f72 hs hn hf).mono fun v M' => ?_)); rintro ⟨rfl, k, rfl⟩)
    | refine WC.ret ?_
    | refine WC.seq ?_
    | refine WC.region ?_
    | refine WO.nil ?_
    | refine WO.cons ?_
    | refine W1.mv rfl ?_
    | refine W1.geq rfl rfl ?_
    | refine Exists.intro _ (And.intro (Res.tmp rfl Res.nil) ?_)
  exact ⟨rfl, _, rfl⟩
end Go.Ax
end
section
namespace Go.Ax
open Go.Ax.Ir
structure WxD where
  l0 : Int
  l1 : Int
  l2 : Int
  fd : Int
  sH : V
  sO : V
  nH : Nat
  nO : Nat
  head : Nat → List V
  ord : Nat → List V
def WxD.cells (t : WxD) : List V := [.int .i64 t.l0, .int .i64 t.l1, .int .i64 t.l2, .int .i64 t.fd, t.sH, t.sO]
structure WxOk (g : Gz) (t : WxD) : Prop where
  hH : SlcR g [] t.sH t.nH 6 t.head
  hO : SlcR g [] t.sO t.nO 6 t.ord
  nH : t.nH ≤ 1000000000
  nO : t.nO ≤ 1000000000
  cH : t.sH.scalar = true
  cO : t.sO.scalar = true
  hrow : ∀ i, i < t.nH → ∃ nm a b c d k, t.head i = [.str nm, .int .i64 a, .int .i64 b, .int .i64 c, .int .i64 d, .bool k]
  orow : ∀ i, i < t.nO → ∃ nm a b c d e, t.ord i = [.str nm, .int .i64 a, .int .i64 b, .int .i64 c, .int .i64 d, .int .i64 e]
theorem WxOk.lessG {g g' : Gz} (hg : g.le g') {t : WxD} (h : WxOk g t) : WxOk g' t :=
  ⟨h.hH.lessG hg, h.hO.lessG hg, h.nH, h.nO, h.cH, h.cO, h.hrow, h.orow⟩
theorem WxOk.sc6 {g : Gz} {t : WxD} (h : WxOk g t) : (V.agg t.cells).cells.all V.scalar = true := by
  simp [V.cells, WxD.cells, h.cH, h.cO]; exact ⟨rfl, rfl, rfl, rfl⟩
structure WxVal (m : Int) (t : WxD) : Prop where
  l0 : 0 ≤ t.l0 ∧ t.l0 ≤ m
  l1 : 0 ≤ t.l1 ∧ t.l1 ≤ m
  l2 : 0 ≤ t.l2 ∧ t.l2 ≤ m
  fd : 1 ≤ t.fd
  nH : t.nH ≤ 6
  nO : t.nO ≤ 3
theorem f38L {g : Gz} {M M1 : Mem} {b o k : Nat} {lo hi : Int} {cs : List V} {a : BA} (h : At M b (Arr1 cs a) M1) (hk : ∀ i, i < k → ∃ q, cs[o + i]? = some (.int .i64 q)) (hk2 : k ≤ 1000) :
    WF tbl g 38 [.int .i64 lo, .int .i64 hi, .slice b o k (some k) 1] M fun v M' => M' = M ∧ ∃ t, v = .bool t ∧ (t = false → ∀ i, i < k → ∀ q, cs[o + i]? = some (.int .i64 q) → lo ≤ q ∧ q ≤ hi) := by
  have hs : Slc g M (.slice b o k (some k) 1) k 1 fun i _ => .int .i64 (if h : i < k then (hk i h).choose else 0) :=
    Or.inr ⟨b, o, some k, rfl, fun c e => by cases e; exact Nat.le_refl _, fun hp hsat => by
      obtain ⟨h0, ⟨ob, h1, h2⟩, _⟩ := hsat.mem _ h.mem
      refine ⟨cs, a, h0, by rw [h1, show ob = .arr cs a from h2], fun i hi j hj => ?_⟩
      obtain rfl : j = 0 := by omega
      simp only [Nat.mul_one, Nat.add_zero]
      rw [dif_pos hi]; exact (hk i hi).choose_spec⟩
  refine (f38 hs (by omega)).mono ?_
  rintro v M' ⟨rfl, t, rfl, h3⟩
  refine ⟨rfl, t, rfl, fun ht i hi q hq => ?_⟩
  have := h3 ht i hi
  rw [dif_pos hi] at this
  have e := (hk i hi).choose_spec
  have e2 := hq.symm.trans e
  injection e2 with e2; injection e2 with _ e2
  rw [← e2] at this; exact this
attribute [local irreducible] W1 WO WC WD WF WV
theorem f43 {g : Gz} {M M1 : Mem} {nm nm2 : List UInt8} {a b c d : Int} {k : Bool} {r : List V} {bp : Nat} (h : At M bp (Arr1 (.str nm2 :: r) {}) M1) :
    WF tbl g 43 [.agg [.str nm, .int .i64 a, .int .i64 b, .int .i64 c, .int .i64 d, .bool k], .ptr bp 0] M fun v M' => M' = M ∧ ∃ t, v = .bool t := by
  refine WF.trimS (WF.intro rfl (Nat.le_of_ble_eq_true rfl) ?_)
  repeat' first
    | refine W1.binStr rfl rfl rfl ?_
    | refine WC.ret ?_
    | refine WC.seq ?_
    | refine WC.region ?_
    | refine WO.nil ?_
    | refine WO.cons ?_
    | refine W1.mv rfl ?_
    | refine W1.fa rfl ?_
    | refine W1.box rfl rfl (fun bb => ?_)
    | refine Exists.intro _ (And.intro (Res.tmp rfl Res.nil) ?_)
    | refine W1.ldS rfl .here rfl ?_
    | refine W1.ldS rfl (.there h) rfl ?_
  exact ⟨by repeat (first | exact Suf.refl | apply Suf.cons), _, rfl⟩
theorem f47 {g : Gz} {M M1 : Mem} {nm nm2 : List UInt8} {a b c d e : Int} {r : List V} {bp : Nat} (h : At M bp (Arr1 (.str nm2 :: r) {}) M1) :
    WF tbl g 47 [.agg [.str nm, .int .i64 a, .int .i64 b, .int .i64 c, .int .i64 d, .int .i64 e], .ptr bp 0] M fun v M' => M' = M ∧ ∃ t, v = .bool t := by
  refine WF.trimS (WF.intro rfl (Nat.le_of_ble_eq_true rfl) ?_)
  repeat' first
    | refine W1.binStr rfl rfl rfl ?_
    | refine WC.ret ?_
    | refine WC.seq ?_
    | refine WC.region ?_
    | refine WO.nil ?_
    | refine WO.cons ?_
    | refine W1.mv rfl ?_
    | refine W1.fa rfl ?_
    | refine W1.box rfl rfl (fun bb => ?_)
    | refine Exists.intro _ (And.intro (Res.tmp rfl Res.nil) ?_)
    | refine W1.ldS rfl .here rfl ?_
    | refine W1.ldS rfl (.there h) rfl ?_
  exact ⟨by repeat (first | exact Suf.refl | apply Suf.cons), _, rfl⟩
theorem lt1 {P : Nat → Prop} (h : P 0) : ∀ i, i < 1 → P i := fun i hi => by obtain rfl : i = 0 := by omega
                                                                            exact h
theorem lt3 {P : Nat → Prop} (h0 : P 0) (h1 : P 1) (h2 : P 2) : ∀ i, i < 3 → P i := fun i hi => by
  rcases i with _ | _ | _ | i
  · exact h0
  · exact h1
  · exact h2
  · omega
theorem lt4 {P : Nat → Prop} (h0 : P 0) (h1 : P 1) (h2 : P 2) (h3 : P 3) : ∀ i, i < 4 → P i := fun i hi => by
  rcases i with _ | _ | _ | _ | i
  · exact h0
  · exact h1
  · exact h2
  · exact h3
  · omega
set_option maxHeartbeats 1000000 in
theorem f40 {g : Gz} {M M1 : Mem} {t : WxD} {b1 i : Nat} (ok : WxOk g t) (hi : i < t.nH) (h1 : At M b1 (Arr1 t.cells {}) M1) :
    WF tbl g 40 [.int .i64 i, .agg (t.head i), .ptr b1 0] M fun v M' => M' = M ∧ ∃ e, v = .int .i64 e := by
  obtain ⟨nm, a, b, c, d, e, hr⟩ := ok.hrow i hi
  have hnh := ok.nH
  have h43 : ∀ (bp : Nat) (M M1 : Mem) r nm2, At M bp (Arr1 (.str nm2 :: r) {}) M1 → ∀ k, k < t.nH → WV tbl g (.func 43 [] [.ptr bp 0]) [.agg (t.head k)] M fun v M' => M' = M ∧ ∃ t, v = .bool t := by
    intro bp M M1 r nm2 h k hk
    obtain ⟨_, _, _, _, _, _, e⟩ := ok.hrow k hk
    rw [e]; exact WV.func (f43 h)
  rw [hr]
  refine WF.trimS (WF.intro rfl (Nat.le_of_ble_eq_true rfl) ?_)
  repeat' first
    | (refine W1.callP rfl f41 (fun v hv => ?_); obtain ⟨tn, rfl⟩ := hv)
    | refine W1.slcToD rfl rfl ok.hH (by omega) (by omega) (fun s' hs' => ?_)
    | refine W1.slcaAllO rfl .here (Nat.le_of_ble_eq_true rfl) ?_
    | (refine W1.callV rfl rfl (WV.func ((f42 hs'.up (by omega) (fun k hk => h43 _ _ _ _ _ .here k (by omega))).mono fun v M' => ?_)); rintro ⟨rfl, tt, rfl⟩)
    | (refine W1.callV rfl rfl (WV.func ((f38L (k := 1) (o := 0) .here (lt1 ⟨_, rfl⟩) (by decide)).mono fun v M' => ?_)); rintro ⟨rfl, tt, rfl, ht⟩)
    | (refine W1.callV rfl rfl (WV.func ((f38L (k := 3) (o := 1) .here (lt3 ⟨_, rfl⟩ ⟨_, rfl⟩ ⟨_, rfl⟩) (by decide)).mono fun v M' => ?_)); rintro ⟨rfl, tt, rfl, ht⟩)
    | refine W1.ldS rfl (.there h1) rfl ?_
    | refine WC.ret ?_
    | refine WC.seq ?_
    | refine WC.block ?_
    | refine WC.region ?_
    | refine WC.skip ?_
    | refine WC.cond_t rfl (by first | assumption | rfl) ?_
    | refine WC.cond rfl (fun hc => ?_) (fun hc => ?_)
    | refine WO.nil ?_
    | refine WO.cons ?_
    | refine W1.guard_y rfl (by first | assumption | rfl) ?_
    | refine W1.guard_n rfl (by first | assumption | rfl) ?_
    | refine W1.guard rfl (fun hc => ?_) (fun hc => ?_)
    | refine W1.pick_t rfl (by first | assumption | rfl) rfl ?_
    | refine W1.pick_f rfl (by first | assumption | rfl) rfl ?_
    | refine W1.mv rfl ?_
    | refine W1.fa rfl ?_
    | refine W1.mkfn rfl rfl ?_
    | refine W1.not rfl ?_
    | refine W1.bldS rfl rfl rfl (fun bb => ?_)
    | refine W1.box rfl rfl (fun bb => ?_)
    | refine Exists.intro _ (And.intro (Res.tmp rfl Res.nil) ?_)
    | refine W1.ldS rfl .here rfl ?_
  all_goals exact ⟨by repeat (first | exact Suf.refl | apply Suf.cons), _, rfl⟩
set_option maxHeartbeats 1000000 in
theorem f45 {g : Gz} {M M1 : Mem} {t : WxD} {b1 i : Nat} (ok : WxOk g t) (hi : i < t.nO) (h1 : At M b1 (Arr1 t.cells {}) M1) :
    WF tbl g 45 [.int .i64 i, .agg (t.ord i), .ptr b1 0] M fun v M' => M' = M ∧ ∃ e, v = .int .i64 e := by
  obtain ⟨nm, a, b, c, d, e, hr⟩ := ok.orow i hi
  have hnh := ok.nO
  have h47 : ∀ (bp : Nat) (M M1 : Mem) r nm2, At M bp (Arr1 (.str nm2 :: r) {}) M1 → ∀ k, k < t.nO → WV tbl g (.func 47 [] [.ptr bp 0]) [.agg (t.ord k)] M fun v M' => M' = M ∧ ∃ t, v = .bool t := by
    intro bp M M1 r nm2 h k hk
    obtain ⟨_, _, _, _, _, _, e⟩ := ok.orow k hk
    rw [e]; exact WV.func (f47 h)
  rw [hr]
  refine WF.trimS (WF.intro rfl (Nat.le_of_ble_eq_true rfl) ?_)
  repeat' first
    | (refine W1.callP rfl f41 (fun v hv => ?_); obtain ⟨tn, rfl⟩ := hv)
    | refine W1.slcToD rfl rfl ok.hO (by omega) (by omega) (fun s' hs' => ?_)
    | (refine W1.callV rfl rfl (WV.func ((f46 hs'.up (by omega) (fun k hk => h47 _ _ _ _ _ .here k (by omega))).mono fun v M' => ?_)); rintro ⟨rfl, tt, rfl⟩)
    | (refine W1.callV rfl rfl (WV.func ((f38L (k := 1) (o := 0) .here (lt1 ⟨_, rfl⟩) (by decide)).mono fun v M' => ?_)); rintro ⟨rfl, tt, rfl, ht⟩)
    | (refine W1.callV rfl rfl (WV.func ((f38L (k := 4) (o := 0) .here (lt4 ⟨_, rfl⟩ ⟨_, rfl⟩ ⟨_, rfl⟩ ⟨_, rfl⟩) (by decide)).mono fun v M' => ?_)); rintro ⟨rfl, tt, rfl, ht⟩)
    | refine W1.ldS rfl (.there h1) rfl ?_
    | refine WC.ret ?_
    | refine WC.seq ?_
    | refine WC.block ?_
    | refine WC.region ?_
    | refine WC.skip ?_
    | refine WC.cond_t rfl (by first | assumption | rfl) ?_
    | refine WC.cond rfl (fun hc => ?_) (fun hc => ?_)
    | refine WO.nil ?_
    | refine WO.cons ?_
    | refine W1.guard_y rfl (by first | assumption | rfl) ?_
    | refine W1.guard_n rfl (by first | assumption | rfl) ?_
    | refine W1.guard rfl (fun hc => ?_) (fun hc => ?_)
    | refine W1.pick_t rfl (by first | assumption | rfl) rfl ?_
    | refine W1.pick_f rfl (by first | assumption | rfl) rfl ?_
    | refine W1.mv rfl ?_
    | refine W1.fa rfl ?_
    | refine W1.mkfn rfl rfl ?_
    | refine W1.gtr rfl rfl ?_
    | refine W1.not rfl ?_
    | refine W1.bldS rfl rfl rfl (fun bb => ?_)
    | refine W1.box rfl rfl (fun bb => ?_)
    | refine Exists.intro _ (And.intro (Res.tmp rfl Res.nil) ?_)
    | refine W1.ldS rfl .here rfl ?_
    | refine W1.ldS rfl (.there .here) rfl ?_
    | refine W1.ldS rfl (.there (.there .here)) rfl ?_
  all_goals exact ⟨by repeat (first | exact Suf.refl | apply Suf.cons), _, rfl⟩
set_option maxHeartbeats 2000000 in
theorem f7 {g : Gz} {M : Mem} {t : WxD} (ok : WxOk g t) : WF tbl g 7 [.agg t.cells] M fun v M' => M' = M ∧ ∃ p a e, v = .tup [.int .i64 p, .int .i64 a, .int .i64 e] ∧ (e = 0 → WxVal 40 t) := by
  have hnh := ok.nH
  have hno := ok.nO
  have hsc : ∀ k, k < t.nH → (t.head k).all V.scalar = true := by
    intro k hk; obtain ⟨_, _, _, _, _, _, e⟩ := ok.hrow k hk; rw [e]; rfl
  have osc : ∀ k, k < t.nO → (t.ord k).all V.scalar = true := by
    intro k hk; obtain ⟨_, _, _, _, _, _, e⟩ := ok.orow k hk; rw [e]; rfl
  refine WF.trimS (WF.intro rfl (Nat.le_of_ble_eq_true rfl) ?_)
  repeat' first
    | refine W1.box rfl ok.sc6 (fun b1 => ?_)
    | refine W1.slcaAllO rfl .here (Nat.le_of_ble_eq_true rfl) ?_
    | (refine W1.callV rfl rfl (WV.func ((f38L (lo := 0) (hi := 40) (k := 3) (o := 0) .here (lt3 ⟨_, rfl⟩ ⟨_, rfl⟩ ⟨_, rfl⟩) (by decide)).mono fun v M' => ?_)); rintro ⟨rfl, ta, rfl, hta⟩)
    | (refine W1.callV rfl rfl (WV.func ((f38L (lo := 1) (hi := 364) (k := 1) (o := 0) .here (lt1 ⟨_, rfl⟩) (by decide)).mono fun v M' => ?_)); rintro ⟨rfl, tb, rfl, htb⟩)
    | (refine W1.callV rfl rfl (WV.func ((f39 ok.hH.up (by omega) hsc (fun i hi => WV.func (f40 ok hi (.there .here)))).mono fun v M' => ?_)); rintro ⟨rfl, a3, e3, rfl⟩)
    | (refine W1.callV rfl rfl (WV.func ((f44 ok.hO.up (by omega) osc (fun i hi => WV.func (f45 ok hi (.there .here)))).mono fun v M' => ?_)); rintro ⟨rfl, a4, e4, rfl⟩)
    | refine W1.lenSlc rfl ok.hH.up.1 ?_
    | refine W1.lenSlc rfl ok.hO.up.1 ?_
    | refine WC.cond (c := .t 15) rfl (fun hc => ?_) (fun hc6 => ?_)
    | refine WC.cond (c := .t 32) rfl (fun hc => ?_) (fun hc3 => ?_)
    | refine WC.ret ?_
    | refine WC.seq ?_
    | refine WC.block ?_
    | refine WC.region ?_
    | refine WC.skip ?_
    | refine WC.cond_t rfl (by first | assumption | rfl) ?_
    | refine WC.cond rfl (fun hc => ?_) (fun hc => ?_)
    | refine WO.nil ?_
    | refine WO.cons ?_
    | refine W1.guard_y rfl (by first | assumption | rfl) ?_
    | refine W1.guard_n rfl (by first | assumption | rfl) ?_
    | refine W1.guard rfl (fun hc => ?_) (fun hc => ?_)
    | refine W1.pick_t rfl (by first | assumption | rfl) rfl ?_
    | refine W1.pick_f rfl (by first | assumption | rfl) rfl ?_
    | refine W1.mv rfl ?_
    | refine W1.fa rfl ?_
    | refine W1.ext rfl rfl ?_
    | refine W1.mkfn rfl rfl ?_
    | refine W1.gtr rfl rfl ?_
    | refine W1.neq rfl rfl ?_
    | refine W1.bldS rfl rfl rfl (fun bb => ?_)
    | refine Exists.intro _ (And.intro (Res.tmp rfl (Res.tmp rfl (Res.tmp rfl Res.nil))) ?_)
    | refine W1.ldS rfl .here rfl ?_
    | refine W1.ldS rfl (.there .here) rfl ?_
  all_goals first
    | exact ⟨by repeat (first | exact Suf.refl | apply Suf.cons), _, _, _, rfl, fun h => absurd h (by decide)⟩
    | exact ⟨by repeat (first | exact Suf.refl | apply Suf.cons), _, _, _, rfl, fun h => absurd h (by simpa using hc)⟩
    | exact ⟨by repeat (first | exact Suf.refl | apply Suf.cons), _, _, _, rfl, fun _ => ⟨hta (by assumption) 0 (by decide) _ rfl, hta (by assumption) 1 (by decide) _ rfl, hta (by assumption) 2 (by decide) _ rfl, (htb (by assumption) 0 (by decide) _ rfl).1, by have := of_decide_eq_false hc6; omega, by have := of_decide_eq_false hc3; omega⟩⟩
end Go.Ax
end
section
namespace Go.Ax
open Go.Ax.Ir
def A3 (v : V) : Prop := ∃ a b c, v = .agg [.int .i64 a, .int .i64 b, .int .i64 c]
def Fd (v : V) : Prop := ∃ a b c k, v = .agg [.int .i64 a, .int .i64 b, .int .i64 c, .bool k]
abbrev RUL : List V := [.int .i64 1, .func 73 [] [], .int .i64 2, .func 74 [] []]
def STC (t : WxD) (w : Int) (ms : List V) (r m : V) : List V := .int .i64 t.l0 :: .int .i64 t.l1 :: .int .i64 t.l2 :: .int .i64 t.fd :: t.sH :: t.sO :: .int .i64 w :: (ms ++ [r, m])
theorem STC.ms {t : WxD} {w : Int} {ms : List V} {r m : V} {o : Nat} (h : o < ms.length) : (STC t w ms r m)[7 + o]? = ms[o]? := by
  rw [show 7 + o = o + 7 by omega]
  show (ms ++ [r, m])[o]? = _
  exact List.getElem?_append_left h
theorem STC.r {t : WxD} {w : Int} {ms : List V} {r m : V} (h : ms.length = 18) : (STC t w ms r m)[25]? = some r := by
  show (ms ++ [r, m])[18]? = _
  rw [List.getElem?_append_right (by omega), h]; rfl
theorem STC.m {t : WxD} {w : Int} {ms : List V} {r m : V} (h : ms.length = 18) : (STC t w ms r m)[26]? = some m := by
  show (ms ++ [r, m])[19]? = _
  rw [List.getElem?_append_right (by omega), h]; rfl
theorem STC.spl {t : WxD} {w : Int} {ms vs : List V} {r m : V} {o : Nat} (h : o + vs.length ≤ ms.length) : splice (STC t w ms r m) (7 + o) vs = STC t w (splice ms o vs) r m := by
  rw [show 7 + o = o + 7 by omega]
  have e2 : o + 7 + vs.length = (o + vs.length) + 7 := by omega
  unfold splice
  rw [e2]
  show (_ :: _ :: _ :: _ :: _ :: _ :: _ :: (ms ++ [r, m]).take o) ++ vs ++ (ms ++ [r, m]).drop (o + vs.length) = _
  rw [List.take_append_of_le_length (by omega), List.drop_append_of_le_length h]
  simp [STC]
theorem STC.len {t : WxD} {w : Int} {ms : List V} {r m : V} (h : ms.length = 18) : (STC t w ms r m).length = 27 := by simp [STC, h]
theorem STC.row {t : WxD} {w : Int} {ms : List V} {r m : V} {o k : Nat} (h : o + k ≤ ms.length) : ((STC t w ms r m).drop (7 + o)).take k = (ms.drop o).take k := by
  rw [show 7 + o = o + 7 by omega]
  show ((ms ++ [r, m]).drop o).take k = _
  rw [List.drop_append_of_le_length (by omega), List.take_append_of_le_length (by rw [List.length_drop]; omega)]
theorem IntL.three {xs : List V} (h : IntL xs) (hl : xs.length = 3) : ∃ a b c, xs = [.int .i64 a, .int .i64 b, .int .i64 c] := by
  match xs, hl with
  | [x, y, z], _ =>
    obtain ⟨a, rfl⟩ := h x (by simp)
    obtain ⟨b, rfl⟩ := h y (by simp)
    obtain ⟨c, rfl⟩ := h z (by simp)
    exact ⟨a, b, c, rfl⟩
theorem IntL3 (a b c : Int) : IntL [.int .i64 a, .int .i64 b, .int .i64 c] := fun v hv => by
  simp only [List.mem_cons, List.mem_nil_iff, or_false] at hv
  rcases hv with rfl | rfl | rfl
  · exact ⟨a, rfl⟩
  · exact ⟨b, rfl⟩
  · exact ⟨c, rfl⟩
structure StF (g : Gz) (t : WxD) (bs bm : Nat) : Prop where
  ok : WxOk g t
  val : WxVal 100 t
  hT : ∃ w ms br, ms.length = 18 ∧ IntL ms ∧ g bs = some (.arr (STC t w ms (.slice br 0 2 (some 2) 2) (.map bm)) {}) ∧ g br = some (.arr RUL {})
theorem StF.ld {g : Gz} {t : WxD} {bs bm : Nat} (h : StF g t bs bm) : rdAgg g false bs 0 1 = some (.int .i64 t.l0) ∧ rdAgg g false bs 1 1 = some (.int .i64 t.l1) ∧ rdAgg g false bs 2 1 = some (.int .i64 t.l2) ∧ rdAgg g false bs 4 1 = some t.sH ∧ rdAgg g false bs 5 1 = some t.sO ∧ (∃ w, rdAgg g false bs 6 1 = some (.int .i64 w)) ∧ rdAgg g false bs 26 1 = some (.map bm) := by
  obtain ⟨w, ms, br, hl, hi, h1, h2⟩ := h.hT
  refine ⟨?_, ?_, ?_, ?_, ?_, ⟨w, ?_⟩, ?_⟩
  · simp only [rdAgg, h1]; rfl
  · simp only [rdAgg, h1]; rfl
  · simp only [rdAgg, h1]; rfl
  · simp only [rdAgg, h1]; rfl
  · simp only [rdAgg, h1]; rfl
  · simp only [rdAgg, h1]; rfl
  · simp only [rdAgg, h1]; exact STC.m hl
theorem StF.rul {g : Gz} {t : WxD} {bs bm : Nat} (h : StF g t bs bm) : ∃ br, rdAgg g false bs 25 1 = some (.slice br 0 2 (some 2) 2) ∧ ∀ i : Nat, i < 2 → ∃ kd f, rdAgg g true br (0 + ((i : Int)).toNat * 2) 2 = some (.agg [.int .i64 kd, .func f [] []]) ∧ 0 ≤ kd ∧ kd < 3 ∧ (f = 73 ∨ f = 74) := by
  obtain ⟨w, ms, br, hl, hi, h1, h2⟩ := h.hT
  refine ⟨br, by simp only [rdAgg, h1]; exact STC.r hl, fun i hi => ?_⟩
  have hi2 : i = 0 ∨ i = 1 := by omega
  rcases hi2 with rfl | rfl
  · exact ⟨1, 73, by simp [rdAgg, rdG, h2], by decide, by decide, Or.inl rfl⟩
  · exact ⟨2, 74, by simp [rdAgg, rdG, h2], by decide, by decide, Or.inr rfl⟩
theorem StF.row {g : Gz} {t : WxD} {bs bm : Nat} (h : StF g t bs bm) {j : Int} (h0 : 0 ≤ j) (h1 : j < 6) : ∃ a b c, rdAgg g true bs (0 + 7 + j.toNat * 3) 3 = some (.agg [.int .i64 a, .int .i64 b, .int .i64 c]) := by
  obtain ⟨w, ms, br, hl, hi, e1, e2⟩ := h.hT
  obtain ⟨a, b, c, e3⟩ := (hi.dt (j.toNat * 3) 3).three (by simp [hl]; omega)
  refine ⟨a, b, c, ?_⟩
  have hlen := STC.len (t := t) (w := w) (r := .slice br 0 2 (some 2) 2) (m := .map bm) hl
  simp only [rdAgg, rdG, e1]
  have hle : 7 + j.toNat * 3 + 3 ≤ (STC t w ms (.slice br 0 2 (some 2) 2) (.map bm)).length := by rw [hlen]; omega
  rw [Nat.zero_add, STC.row (by omega), e3, if_pos hle]; rfl
theorem WxVal.up {t : WxD} (h : WxVal 40 t) : WxVal 100 t := ⟨⟨h.l0.1, by have := h.l0.2; omega⟩, ⟨h.l1.1, by have := h.l1.2; omega⟩, ⟨h.l2.1, by have := h.l2.2; omega⟩, h.fd, h.nH, h.nO⟩
def ST (t : WxD) (w : Int) (ms : List V) (bs br bm : Nat) : Nat × BP := (bs, Arr1 (STC t w ms (.slice br 0 2 (some 2) 2) (.map bm)) {})
def RU (br : Nat) : Nat × BP := (br, Arr1 RUL {})
theorem WC.store {ft : FT FnR} {g : Gz} {cur : Option Nat} {c : ICode} {L : Env} {M : Mem} {K : X → Env → Mem → Prop} {t : WxD} {w : Int} {ms : List V} {bs br bm : Nat} (ok : WxOk g t) (val : WxVal 100 t) (hl : ms.length = 18) (hi : IntL ms)
    (h : ∀ g', g.le g' → WxOk g' t → StF g' t bs bm → WC ft g' cur c L M fun x L1 M1 => K x L1 (ST t w ms bs br bm :: RU br :: M1)) :
    WC ft g cur c L (ST t w ms bs br bm :: RU br :: M) K := by
  refine WC.freeze .here fun hb => WC.freeze .here fun hb2 => ?_
  have hle : g.le ((g.add bs (.arr (STC t w ms (.slice br 0 2 (some 2) 2) (.map bm)) {})).add br (.arr RUL {})) := fun c p e => Gz.le_add hb2 c p (Gz.le_add hb c p e)
  exact h _ hle (ok.lessG hle) ⟨ok.lessG hle, val, w, ms, br, hl, hi, Gz.le_add hb2 _ _ (Gz.add_eq _ _ _), Gz.add_eq _ _ _⟩
section
variable {ft : FT FnR} {g : Gz}
theorem W1.stM {L : Env} {M M' : Mem} {K : Env → Mem → Prop} {a x : Opd} {t : WxD} {w : Int} {ms : List V} {r m : V} {bs o : Nat} {vs : List V} {v : V} {n : Nat} (ha : lkO L a = some (.ptr bs (0 + 7 + o))) (hx : lkO L x = some v) (hv : v.cells = vs) (hn : vs.length = n) (hsc : vs.all V.scalar = true) (hl : o + n ≤ ms.length) (hu : Up M bs (Arr1 (STC t w ms r m) {}) (Arr1 (STC t w (splice ms o vs) r m) {}) M')
    (h : K L M') : W1 ft g ⟨none, .st n a x, none⟩ L M K :=
  W1.st (M' := M') (cs := STC t w ms r m) ha hx (by rw [hv]; exact hn) (by rw [hv]; exact hsc) (by rw [hv, Nat.zero_add, STC.spl (by omega)]; exact hu) (by simp only [STC, List.length_cons, List.length_append]; omega) h
theorem W1.stM2 {L : Env} {M M' : Mem} {K : Env → Mem → Prop} {a x : Opd} {t : WxD} {w : Int} {ms : List V} {r m : V} {bs o o2 : Nat} {q : Int} (ha : lkO L a = some (.ptr bs (0 + 7 + o + o2))) (hx : lkO L x = some (.int .i64 q)) (hl : o + o2 + 1 ≤ ms.length) (hu : Up M bs (Arr1 (STC t w ms r m) {}) (Arr1 (STC t w (splice ms (o + o2) [.int .i64 q]) r m) {}) M')
    (h : K L M') : W1 ft g ⟨none, .st 1 a x, none⟩ L M K :=
  W1.stM (o := o + o2) (vs := [.int .i64 q]) (by rw [ha, Nat.add_assoc (0 + 7)]) hx rfl rfl rfl hl hu h
theorem W1.ldM2 {L : Env} {M M1 : Mem} {K : Env → Mem → Prop} {d : Nat} {x : Opd} {t : WxD} {w : Int} {ms : List V} {r m : V} {bs o o2 : Nat} (hx : lkO L x = some (.ptr bs (0 + 7 + o + o2))) (hat : At M bs (Arr1 (STC t w ms r m) {}) M1) (hi : IntL ms) (hl : o + o2 < ms.length) (h : ∀ q, (STC t w ms r m)[0 + 7 + o + o2]? = some (.int .i64 q) → K ((d, .int .i64 q) :: L) M) : W1 ft g ⟨some d, .ld false 1 x, none⟩ L M K := by
  obtain ⟨q, hq⟩ := hi.get hl
  have e : (STC t w ms r m)[0 + 7 + o + o2]? = some (.int .i64 q) := by rw [Nat.zero_add, Nat.add_assoc, STC.ms hl]; exact hq
  exact W1.ldS hx hat e (h q e)
end
theorem perm_w5 (a b c d : Nat × BP) (M : Mem) : (a :: b :: c :: d :: M).Perm ([d] ++ (b :: a :: c :: M)) :=
  (List.Perm.swap b a _).trans (List.perm_middle (l₁ := [b, a, c]) (a := d) (l₂ := M))
def PostL48 (t : WxD) (M : Mem) (v : V) (M' : Mem) : Prop :=
  (∃ e, v = .tup [.nilptr, .int .i64 e] ∧ (!decide (e = 0)) = true ∧ M' = M) ∨
  (∃ bs br bm w ms, v = .tup [.ptr bs 0, .int .i64 0] ∧ WxVal 40 t ∧ ms.length = 18 ∧ IntL ms ∧ M' = ST t w ms bs br bm :: RU br :: (bm, MapOf A3 Fd) :: M)
attribute [local irreducible] W1 WO WC WD WF WV
theorem f73 {g : Gz} {M : Mem} {nm : List UInt8} {a b c d e : Int} : WF tbl g 73 [.agg [.str nm, .int .i64 a, .int .i64 b, .int .i64 c, .int .i64 d, .int .i64 e]] M fun v M' => M' = M ∧ ∃ x y, v = .agg [.int .i64 x, .int .i64 y] := by
  refine WF.trimS (WF.intro rfl (Nat.le_of_ble_eq_true rfl) ?_)
  repeat' first
    | refine W1.alloc (d := 2) rfl (fun b2 => ?_)
    | refine W1.ldX (vs := [.int .i64 b, .int .i64 c]) rfl (.there .here) (Nat.le_of_ble_eq_true rfl) rfl ?_
    | refine W1.stAll rfl rfl rfl rfl rfl .here ?_
    | refine WC.ret ?_
    | refine WC.seq ?_
    | refine WC.region ?_
    | refine WO.nil ?_
    | refine WO.cons ?_
    | refine W1.fa rfl ?_
    | refine W1.box rfl rfl (fun bb => ?_)
  exact ⟨_, Res.cell rfl .here (rdB_all rfl) Res.nil, by repeat (first | exact Suf.refl | apply Suf.cons), _, _, rfl⟩
theorem f74 {g : Gz} {M : Mem} {nm : List UInt8} {a b c d e : Int} : WF tbl g 74 [.agg [.str nm, .int .i64 a, .int .i64 b, .int .i64 c, .int .i64 d, .int .i64 e]] M fun v M' => M' = M ∧ ∃ x y, v = .agg [.int .i64 x, .int .i64 y] := by
  refine WF.trimS (WF.intro rfl (Nat.le_of_ble_eq_true rfl) ?_)
  repeat' first
    | refine W1.alloc (d := 2) rfl (fun b2 => ?_)
    | refine W1.ldX (vs := [.int .i64 d, .int .i64 e]) rfl (.there .here) (Nat.le_of_ble_eq_true rfl) rfl ?_
    | refine W1.stAll rfl rfl rfl rfl rfl .here ?_
    | refine WC.ret ?_
    | refine WC.seq ?_
    | refine WC.region ?_
    | refine WO.nil ?_
    | refine WO.cons ?_
    | refine W1.fa rfl ?_
    | refine W1.box rfl rfl (fun bb => ?_)
  exact ⟨_, Res.cell rfl .here (rdB_all rfl) Res.nil, by repeat (first | exact Suf.refl | apply Suf.cons), _, _, rfl⟩
theorem frule {g : Gz} {M : Mem} {f : Nat} (hf : f = 73 ∨ f = 74) {nm : List UInt8} {a b c d e : Int} : WV tbl g (.func f [] []) [.agg [.str nm, .int .i64 a, .int .i64 b, .int .i64 c, .int .i64 d, .int .i64 e]] M fun v M' => M' = M ∧ ∃ x y, v = .agg [.int .i64 x, .int .i64 y] := by
  rcases hf with rfl | rfl
  · exact WV.func f73
  · exact WV.func f74
theorem f52 {g : Gz} {M : Mem} {a b c : Int} : WF tbl g 52 [.agg [.int .i64 a, .int .i64 b, .int .i64 c]] M fun v M' => M' = M ∧ ∃ x, v = .int .i64 x := by
  refine WF.trimS (WF.intro rfl (Nat.le_of_ble_eq_true rfl) ?_)
  repeat' first
    | refine W1.iaa rfl rfl (by decide) (by decide) ?_
    | refine W1.ldS rfl .here rfl ?_
    | refine W1.addU rfl rfl (fun z => ?_)
    | refine WC.ret ?_
    | refine WC.seq ?_
    | refine WC.region ?_
    | refine WO.nil ?_
    | refine WO.cons ?_
    | refine W1.mv rfl ?_
    | refine W1.box rfl rfl (fun bb => ?_)
    | refine Exists.intro _ (And.intro (Res.tmp rfl Res.nil) ?_)
  exact ⟨by repeat (first | exact Suf.refl | apply Suf.cons), _, rfl⟩
set_option maxHeartbeats 4000000 in
theorem f48 {g : Gz} {M : Mem} {t : WxD} {later : Int} (ok : WxOk g t) : WF tbl g 48 [.agg t.cells, .int .i64 later] M (PostL48 t M) := by
  have hnh := ok.nH
  have hno := ok.nO
  refine WF.trim (WF.intro rfl (Nat.le_of_ble_eq_true rfl) ?_)
  repeat' first
    | refine W1.box (d := 2) rfl ok.sc6 (fun b2 => ?_)
    | refine W1.ldAll rfl .here rfl ?_
    | (refine W1.callV rfl rfl (WV.func ((f7 ok).mono fun v M' => ?_)); rintro ⟨rfl, p, a, e, rfl, hv⟩)
    | refine WC.cond (c := .t 22) rfl (fun hc => ?_) (fun he0 => ?_)
    | exact ⟨M, [_], List.Perm.refl _, Or.inl ⟨_, rfl, hc, rfl⟩⟩
    | refine WC.ret ?_
    | refine W1.mkmapOf A3 Fd (fun bm => ?_)
    | refine W1.box (d := 27) rfl (by simp [V.cells, splice, WxD.cells, rep, ok.cH, ok.cO]; first | done | (repeat' apply And.intro) <;> rfl) (fun bs => ?_)
    | refine W1.bldS rfl rfl rfl (fun br => ?_)
    | refine W1.st rfl rfl rfl rfl (.there .here) (Nat.le_of_ble_eq_true rfl) ?_
    | refine W1.ldS rfl (.there (.there (.there .here))) rfl ?_
    | refine W1.lenSlc rfl ok.hO.up.1 ?_
    | refine WC.seq ?_
    | refine WC.region ?_
    | refine WC.skip ?_
    | refine WO.nil ?_
    | refine WO.cons ?_
    | refine W1.mv rfl ?_
    | refine W1.nilck rfl ?_
    | refine W1.fa rfl ?_
    | refine W1.ext rfl rfl ?_
    | refine W1.neq rfl rfl ?_
    | refine W1.bld rfl rfl ?_
    | refine Exists.intro _ (And.intro (Res.tmp rfl (Res.tmp rfl Res.nil)) ?_)
  refine WC.forR (blk := 0) (n := t.nO) [1, 2, 9, 35, 36] (fun _ (_ : Unit) => []) (fun i _ M' => ∃ w, M' = RU br :: ST t w (rep 18 [.int .i64 0]) bs br bm :: (bm, MapOf A3 Fd) :: (b2, Arr1 t.cells {}) :: M) () (by omega) rfl (fun _ _ => rfl) (fun _ _ => rfl) (fun _ _ => rfl) (fun _ _ => rfl) ⟨rfl, rfl⟩ (subL.nil _) ⟨0, rfl⟩ ?_ ?_
  · rintro i a M' hi ⟨w, rfl⟩
    obtain ⟨nm, xa, xb, xc, xd, xe, hr⟩ := ok.orow i hi
    repeat' first
      | (refine W1.iaRow rfl rfl ok.hO.up (by omega) (by omega) (fun bq oq hrd => ?_); rw [Int.toNat_natCast, hr] at hrd)
      | refine W1.ldV (vs := [.str nm, .int .i64 xa, .int .i64 xb, .int .i64 xc, .int .i64 xd, .int .i64 xe]) rfl rfl hrd ?_
      | refine W1.alloc (d := 11) rfl (fun b11 => ?_)
      | refine W1.stAll rfl rfl rfl rfl rfl .here ?_
      | refine W1.addU rfl rfl (fun z => ?_)
      | refine W1.st (v := .int .i64 z) rfl rfl rfl rfl (.there (.there .here)) (Nat.le_of_ble_eq_true rfl) ?_
      | exact ⟨(), _, [_], rfl, by repeat (first | exact subL.nil _ | refine subL.cons rfl ?_), List.Perm.refl _, z, rfl⟩
      | refine WC.seq ?_
      | refine WC.block ?_
      | refine WC.region ?_
      | refine WC.draw ?_
      | refine WO.nil ?_
      | refine WO.cons ?_
      | refine WD.nil ?_
      | refine WD.cons0 ?_
      | refine WD.consH ?_
      | refine WD.consR ?_
      | refine W1.mv rfl ?_
      | refine W1.nilck rfl ?_
      | refine W1.fa rfl ?_
      | refine W1.ldS rfl .here rfl (conjR (ReC.ldS rfl rfl .here rfl) (by simp) ?_)
      | refine W1.ldS rfl (.there (.there .here)) rfl (conjR (ReC.ldS rfl rfl (.there (.there .here)) rfl) (by simp) ?_)
    all_goals trace_state
  · rintro a M' ⟨w, rfl⟩
    repeat' first
      | refine W1.ldS rfl (.there (.there (.there .here))) rfl ?_
      | refine W1.lenSlc rfl ok.hH.up.1 ?_
      | refine WC.seq ?_
      | refine WC.region ?_
      | refine WO.nil ?_
      | refine WO.cons ?_
      | refine W1.mv rfl ?_
      | refine W1.fa rfl ?_
    refine WC.forR (blk := 2) (n := t.nH) [1, 2, 9, 52, 53] (fun _ (_ : Unit) => []) (fun i _ M' => ∃ ms, ms.length = 18 ∧ IntL ms ∧ M' = RU br :: ST t w ms bs br bm :: (bm, MapOf A3 Fd) :: (b2, Arr1 t.cells {}) :: M) () (by omega) rfl (fun _ _ => rfl) (fun _ _ => rfl) (fun _ _ => rfl) (fun _ _ => rfl) ⟨rfl, rfl⟩ (subL.nil _) ⟨_, rep_len _ _, rep_int _ _, rfl⟩ ?_ ?_
    · rintro i u M' hi ⟨ms, hl, hm, rfl⟩
      obtain ⟨nm, xa, xb, xc, xd, xe, hr⟩ := ok.hrow i hi
      have val := hv (by simpa using he0)
      have h6 := val.nH
      have hf : t.fd ≠ 0 := by have := val.fd; omega
      have hl1 : (splice ms (((i : Int)).toNat * 3) [.int .i64 xa, .int .i64 xb, .int .i64 xc]).length = 18 := (spl_len (by simp only [List.length_cons, List.length_nil]; omega)).trans hl
      have hm1 : IntL (splice ms (((i : Int)).toNat * 3) [.int .i64 xa, .int .i64 xb, .int .i64 xc]) := hm.spl (IntL3 xa xb xc)
      have hl2 : ∀ q, (splice (splice ms (((i : Int)).toNat * 3) [.int .i64 xa, .int .i64 xb, .int .i64 xc]) (((i : Int)).toNat * 3 + Int.toNat 2 * 1) [.int .i64 q]).length = 18 := fun q => (spl_len (by rw [hl1]; simp only [List.length_cons, List.length_nil]; have : Int.toNat 2 = 2 := rfl; omega)).trans hl1
      have hm2 : ∀ q, IntL (splice (splice ms (((i : Int)).toNat * 3) [.int .i64 xa, .int .i64 xb, .int .i64 xc]) (((i : Int)).toNat * 3 + Int.toNat 2 * 1) [.int .i64 q]) := fun q => hm1.set
      have e2 : Int.toNat 2 = 2 := rfl
      have e0 : Int.toNat 0 = 0 := rfl
      repeat' first
        | (refine W1.iaRow rfl rfl ok.hH.up (by omega) (by omega) (fun bq oq hrd => ?_); rw [Int.toNat_natCast, hr] at hrd)
        | refine W1.ldV (vs := [.str nm, .int .i64 xa, .int .i64 xb, .int .i64 xc, .int .i64 xd, .bool xe]) rfl rfl hrd ?_
        | refine W1.alloc (d := 13) rfl (fun b13 => ?_)
        | refine W1.stAll rfl rfl rfl rfl rfl .here ?_
        | refine W1.addU rfl rfl (fun z => ?_)
        | refine W1.subU rfl rfl (fun z => ?_)
        | refine W1.quoU rfl rfl hf (fun z => ?_)
        | refine W1.mnU rfl rfl (fun z => ?_)
        | refine W1.iaa rfl rfl (by omega) (by omega) ?_
        | refine W1.ldX (vs := [.int .i64 xa, .int .i64 xb, .int .i64 xc]) rfl .here (Nat.le_of_ble_eq_true rfl) rfl (conjR (ReC.ldX rfl rfl .here (Nat.le_of_ble_eq_true rfl) rfl) (by simp) ?_)
        | refine W1.stM (vs := [.int .i64 xa, .int .i64 xb, .int .i64 xc]) rfl rfl rfl rfl rfl (by omega) (.there (.there .here)) ?_
        | refine W1.ldM2 rfl (.there (.there .here)) (by assumption) (by omega) (fun q hq => conjR (ReC.ldS rfl rfl (.there (.there .here)) hq) (by simp) ?_)
        | refine W1.ldM2 rfl (.there (.there .here)) (hm2 _) (by rw [hl2]; omega) (fun q hq => conjR (ReC.ldS rfl rfl (.there (.there .here)) hq) (by simp) ?_)
        | (refine W1.stM2 rfl rfl (by omega) (.there (.there .here)) ?_)
        | (refine W1.stM2 rfl rfl (by rw [hl2]; omega) (.there (.there .here)) ?_)
        | exact ⟨(), _, [_], rfl, by repeat (first | exact subL.nil _ | refine subL.cons rfl ?_), List.Perm.refl _, _, (spl_len (by rw [hl2]; simp only [List.length_cons, List.length_nil]; omega)).trans (hl2 _), (hm2 _).set, rfl⟩
        | refine W1.ldS rfl (.there (.there (.there (.there .here)))) rfl (conjR (ReC.ldS rfl rfl (.there (.there (.there (.there .here)))) rfl) (by simp) ?_)
        | refine WC.seq ?_
        | refine WC.block ?_
        | refine WC.region ?_
        | refine WC.draw ?_
        | refine WO.nil ?_
        | refine WO.cons ?_
        | refine WD.nil ?_
        | refine WD.cons0 ?_
        | refine WD.consH ?_
        | refine WD.consR ?_
        | refine W1.mv rfl ?_
        | refine W1.nilck rfl ?_
        | refine W1.fa rfl ?_
        | refine W1.ldS rfl .here rfl (conjR (ReC.ldS rfl rfl .here rfl) (by simp) ?_)
      all_goals trace_state
    · rintro u M' ⟨ms, hl, hm, rfl⟩
      repeat' first
        | refine WC.ret ?_
        | refine WC.seq ?_
        | refine WC.region ?_
        | refine WO.nil ?_
        | refine WO.cons ?_
        | refine W1.mv rfl ?_
        | refine Exists.intro _ (And.intro (Res.tmp rfl (Res.tmp rfl Res.nil)) ?_)
      exact ⟨_, [(b2, _)], perm_w5 _ _ _ _ _, Or.inr ⟨bs, br, bm, w, ms, rfl, hv (by simpa using he0), hl, hm, rfl⟩⟩
end Go.Ax
end
section
namespace Go.Ax
open Go.Ax.Ir
theorem key3 {q : EqK} (hq : q = .ag [.i, .i, .i]) : KeyOk q A3 := by
  subst hq
  rintro a b ⟨x, y, z, rfl⟩ ⟨u, v, w, rfl⟩
  rfl
theorem intL3 {a b c : Int} {j : Nat} (hj : j < 3) : ∃ q, ([.int .i64 a, .int .i64 b, .int .i64 c] : List V)[j]? = some (.int .i64 q) := (IntL3 a b c).get hj
attribute [local irreducible] W1 WO WC WD WF WV
set_option maxHeartbeats 2000000 in
theorem f55 {g : Gz} {M : Mem} {t : WxD} {bs bm n : Nat} {x y z : Int} {s : V} {num : Nat → Int} (h : StF g t bs bm) (hs : ∀ M', Suf M M' → Slc g M' s n 1 fun i _ => .int .i64 (num i)) (hn : n ≤ 2000000) (hb : ∀ i, i < n → 0 ≤ num i ∧ num i < 6) :
    WF tbl g 55 [.ptr bs 0, .agg [.int .i64 x, .int .i64 y, .int .i64 z], s] M fun v M' => M' = M ∧ A3 v := by
  refine WF.trimS (WF.intro rfl (Nat.le_of_ble_eq_true rfl) ?_)
  repeat' first
    | refine W1.box (d := 4) rfl rfl (fun b4 => ?_)
    | refine W1.alloc (d := 6) rfl (fun b6 => ?_)
    | refine W1.lenSlc rfl (hs _ (by repeat (first | exact Suf.refl | apply Suf.cons))) ?_
    | refine WC.seq ?_
    | refine WC.region ?_
    | refine WO.nil ?_
    | refine WO.cons ?_
    | refine W1.mv rfl ?_
  refine WC.forR (blk := 0) (n := n) [0, 2, 4, 6, 11, 12] (fun _ (_ : Unit) => []) (fun i _ M' => ∃ xs, xs.length = 3 ∧ IntL xs ∧ M' = (b6, Arr1 [.int .i64 0, .int .i64 0, .int .i64 0] {}) :: (b4, Arr1 xs {}) :: M) () (by omega) rfl (fun _ _ => rfl) (fun _ _ => rfl) (fun _ _ => rfl) (fun _ _ => rfl) ⟨rfl, rfl⟩ (subL.nil _) ⟨_, rfl, IntL3 x y z, rfl⟩ ?_ ?_
  · rintro i u M' hi ⟨xs, hl, hi3, rfl⟩
    obtain ⟨hb0, hb1⟩ := hb i hi
    obtain ⟨ra, rb, rc, hr⟩ := h.row hb0 hb1
    repeat' first
      | (refine W1.iaSlc rfl rfl (hs _ (by repeat (first | exact Suf.refl | apply Suf.cons))) (by omega) (by omega) (fun b o hrd => ?_))
      | refine W1.ldR (v := .int .i64 (num i)) rfl (hrd 0 (by omega)) ?_
      | refine W1.iaa rfl rfl hb0 (by omega) ?_
      | refine W1.ldG rfl hr ?_
      | (refine WC.forO (blk := 2) (n := 3) [0, 2, 4, 6, 11, 12, 13, 22] (fun _ (_ : Unit) => []) (fun j _ M' => ∃ xs, xs.length = 3 ∧ IntL xs ∧ M' = (b6, Arr1 [.int .i64 0, .int .i64 0, .int .i64 0] {}) :: (b4, Arr1 xs {}) :: M) () (by decide) rfl (fun _ _ => rfl) (fun _ _ => rfl) (fun _ _ => rfl) (fun _ _ => rfl) ⟨rfl, rfl⟩ (subL.nil _) ⟨xs, hl, hi3, rfl⟩ ?_ ?_ <;> first | (rintro j u M' hj ⟨xs, hl, hi3, rfl⟩; obtain ⟨p, hp⟩ := intL3 (a := ra) (b := rb) (c := rc) (j := ((j : Int)).toNat * 1) (by omega); obtain ⟨q, hq⟩ := hi3.get (i := 0 + ((j : Int)).toNat * 1) (by omega)) | (rintro u M' ⟨xs, hl, hi3, rfl⟩))
      | refine W1.ixS rfl rfl (by omega) (by omega) hp ?_
      | refine W1.iaa rfl rfl (by omega) (by omega) ?_
      | refine W1.ldS rfl (.there .here) hq ?_
      | refine W1.addU rfl rfl (fun w => ?_)
      | refine W1.stS (s := .int .i64 w) rfl rfl rfl (.there .here) (by omega) ?_
      | exact ⟨(), _, [], rfl, by repeat (first | exact subL.nil _ | refine subL.cons rfl ?_), List.Perm.refl _, _, (spl_len (by simp only [List.length_singleton]; omega)).trans hl, hi3.set, rfl⟩
      | exact ⟨(), _, [], rfl, by repeat (first | exact subL.nil _ | refine subL.cons rfl ?_), List.Perm.refl _, _, hl, hi3, rfl⟩
      | refine WC.seq ?_
      | refine WC.block ?_
      | refine WC.region ?_
      | refine WO.nil ?_
      | refine WO.cons ?_
      | refine W1.mv rfl ?_
      | refine W1.nilck rfl ?_
      | refine W1.fa rfl ?_
  · rintro u M' ⟨xs, hl, hi3, rfl⟩
    obtain ⟨a, b, c, rfl⟩ := hi3.three hl
    repeat' first
      | refine W1.ldAll rfl (.there .here) rfl ?_
      | refine W1.stAll rfl rfl rfl rfl rfl .here ?_
      | refine WC.ret ?_
      | refine WC.seq ?_
      | refine WC.region ?_
      | refine WO.nil ?_
      | refine WO.cons ?_
    exact ⟨_, Res.cell rfl .here (rdB_all rfl) Res.nil, by repeat (first | exact Suf.refl | apply Suf.cons), a, b, c, rfl⟩
set_option maxHeartbeats 2000000 in
theorem f51 {g : Gz} {M : Mem} {t : WxD} {bs bm : Nat} {x y z : Int} {nm : List UInt8} {o1 o2 o3 o4 o5 : Int} (h : StF g t bs bm) :
    WF tbl g 51 [.ptr bs 0, .agg [.int .i64 x, .int .i64 y, .int .i64 z], .agg [.str nm, .int .i64 o1, .int .i64 o2, .int .i64 o3, .int .i64 o4, .int .i64 o5]] M fun v M' => M' = M ∧ ∃ k, v = .bool k := by
  obtain ⟨br, lr, hrul⟩ := h.rul
  refine WF.trimS (WF.intro rfl (Nat.le_of_ble_eq_true rfl) ?_)
  repeat' first
    | refine W1.box (d := 4) rfl rfl (fun b4 => ?_)
    | refine W1.box (d := 5) rfl rfl (fun b5 => ?_)
    | refine W1.ldG rfl lr ?_
    | refine W1.len rfl ?_
    | (refine WC.forR (blk := 0) (n := 2) [0, 4, 5, 6, 12, 13] (fun _ (_ : Unit) => []) (fun i _ M' => M' = (b5, Arr1 [.str nm, .int .i64 o1, .int .i64 o2, .int .i64 o3, .int .i64 o4, .int .i64 o5] {}) :: (b4, Arr1 [.int .i64 x, .int .i64 y, .int .i64 z] {}) :: M) () (by decide) rfl (fun _ _ => rfl) (fun _ _ => rfl) (fun _ _ => rfl) (fun _ _ => rfl) ⟨rfl, rfl⟩ (subL.nil _) rfl ?_ ?_ <;> first | (rintro i u M' hi rfl; obtain ⟨kd, f, hr, hk0, hk1, hf⟩ := hrul i hi; obtain ⟨q, hq⟩ := intL3 (a := x) (b := y) (c := z) (j := 0 + kd.toNat * 1) (by omega)) | (rintro u M' rfl))
    | refine W1.ia rfl rfl (by omega) (by omega) ?_
    | refine W1.ldG rfl hr ?_
    | refine W1.alloc (d := 8) rfl (fun b8 => ?_)
    | refine W1.stAll rfl rfl rfl rfl rfl .here ?_
    | (refine W1.callV rfl rfl ((frule hf).mono fun v M' => ?_); rintro ⟨rfl, u1, u2, rfl⟩)
    | (refine W1.callV rfl rfl (WV.func (f52.mono fun v M' => ?_)); rintro ⟨rfl, w, rfl⟩)
    | (refine W1.callV rfl rfl (WV.func ((f38L (k := 1) (o := 0) .here (lt1 ⟨_, rfl⟩) (by decide)).mono fun v M' => ?_)); rintro ⟨rfl, tt, rfl, ht⟩)
    | refine W1.iaa rfl rfl hk0 hk1 ?_
    | refine W1.mulU rfl rfl (fun w => ?_)
    | refine W1.ldS rfl (.there (.there .here)) hq (conjR (ReC.ldS rfl rfl (.there (.there .here)) hq) (by simp) ?_)
    | refine W1.ldAll rfl (.there .here) rfl (conjR (ReC.ldAll rfl rfl (.there .here) rfl) (by simp) ?_)
    | refine W1.ldAll rfl (.there (.there .here)) rfl (conjR (ReC.ldAll rfl rfl (.there (.there .here)) rfl) (by simp) ?_)
    | refine W1.ldS rfl .here rfl (conjR (ReC.ldS rfl rfl .here rfl) (by simp) ?_)
    | exact ⟨(), _, [_, _], rfl, by repeat (first | exact subL.nil _ | refine subL.cons rfl ?_), List.Perm.refl _, rfl⟩
    | exact ⟨by repeat (first | exact Suf.refl | apply Suf.cons), _, rfl⟩
    | refine WC.ret ?_
    | refine WC.seq ?_
    | refine WC.block ?_
    | refine WC.region ?_
    | refine WC.draw ?_
    | refine WC.skip ?_
    | refine WC.cond rfl (fun hc => ?_) (fun hc => ?_)
    | refine WO.nil ?_
    | refine WO.cons ?_
    | refine WD.nil ?_
    | refine WD.cons0 ?_
    | refine WD.consH ?_
    | refine WD.consR ?_
    | refine W1.mv rfl ?_
    | refine W1.nilck rfl ?_
    | refine W1.fa rfl ?_
    | refine W1.fldS rfl rfl ?_
    | refine W1.bldS rfl rfl rfl (fun bb => ?_)
    | refine Exists.intro _ (And.intro (Res.tmp rfl Res.nil) ?_)
set_option maxHeartbeats 8000000 in
theorem f81 {g : Gz} {M : Mem} {t : WxD} {bs bm : Nat} {x y z : Int} (h : StF g t bs bm) :
    WF tbl g 81 [.ptr bs 0, .agg [.int .i64 x, .int .i64 y, .int .i64 z]] M fun v M' => M' = M ∧ ∃ n k, v = .tup [.int .i64 n, .bool k] := by
  obtain ⟨br, lr, hrul⟩ := h.rul
  obtain ⟨l0, l1, l2, l4, l5, ⟨w6, l6⟩, l26⟩ := h.ld
  have hno := h.ok.nO
  refine WF.trimS (WF.intro rfl (Nat.le_of_ble_eq_true rfl) ?_)
  repeat' first
    | refine W1.box (d := 3) rfl rfl (fun b3 => ?_)
    | refine W1.ldG rfl lr ?_
    | refine W1.ldG rfl l5 ?_
    | refine W1.ldG rfl l6 (conjR (ReC.ldG rfl rfl l6) (by simp) ?_)
    | refine W1.ldG rfl l0 (conjR (ReC.ldG rfl rfl l0) (by simp) ?_)
    | refine W1.len rfl ?_
    | refine W1.lenSlc rfl h.ok.hO.up.1 ?_
    | refine W1.mxU rfl rfl (fun w => ?_)
    | ((with_reducible refine WC.isLoop 0 ?_); refine WC.forR (ι := Int) (blk := 0) (n := 2) [0, 3, 27, 28] (fun _ x => [(6, .int .i64 x)]) (fun i _ M' => M' = (b3, Arr1 [.int .i64 x, .int .i64 y, .int .i64 z] {}) :: M) _ (by decide) rfl (fun _ _ => rfl) (fun _ _ => rfl) (fun _ _ => rfl) (fun _ _ => rfl) ⟨rfl, rfl⟩ (subL.cons rfl (subL.nil _)) rfl ?_ ?_ <;> first | (rintro i l M' hi rfl; obtain ⟨kd, f, hr, hk0, hk1, hf⟩ := hrul i hi; obtain ⟨q, hq⟩ := intL3 (a := x) (b := y) (c := z) (j := 0 + kd.toNat * 1) (by omega)) | (rintro l M' rfl))
    | ((with_reducible refine WC.isLoop 2 ?_); refine WC.forR (ι := Int) (blk := 2) (n := t.nO) [0, 3, 8, 27, 28, 29, 37, 38] (fun _ x => [(6, .int .i64 x)]) (fun i _ M' => M' = (b8, Arr1 [.int .i64 kd, .func f [] []] {}) :: (b3, Arr1 [.int .i64 x, .int .i64 y, .int .i64 z] {}) :: M) _ (by omega) rfl (fun _ _ => rfl) (fun _ _ => rfl) (fun _ _ => rfl) (fun _ _ => rfl) ⟨rfl, rfl⟩ (subL.cons rfl (subL.nil _)) rfl ?_ ?_ <;> first | (rintro j l M' hj rfl; obtain ⟨nm, xa, xb, xc, xd, xe, hrow⟩ := h.ok.orow j hj) | (rintro l M' rfl))
    | ((with_reducible refine WC.isLoop 5 ?_); refine WC.forR (blk := 5) (n := 2) [0, 3, 6, 74, 75] (fun _ (_ : Unit) => []) (fun i _ M' => M' = (b3, Arr1 [.int .i64 x, .int .i64 y, .int .i64 z] {}) :: M) () (by decide) rfl (fun _ _ => rfl) (fun _ _ => rfl) (fun _ _ => rfl) (fun _ _ => rfl) ⟨rfl, rfl⟩ (subL.nil _) rfl ?_ ?_ <;> first | (rintro i l2 M' hi rfl; obtain ⟨kd, f, hr, hk0, hk1, hf⟩ := hrul i hi; obtain ⟨q, hq⟩ := intL3 (a := x) (b := y) (c := z) (j := 0 + kd.toNat * 1) (by omega)) | (rintro l2 M' rfl))
    | ((with_reducible refine WC.isLoop 7 ?_); refine WC.forR (blk := 7) (n := t.nO) [0, 3, 6, 13, 74, 75, 76, 84, 85] (fun _ (_ : Unit) => []) (fun i _ M' => M' = (b13, Arr1 [.int .i64 kd, .func f [] []] {}) :: (b3, Arr1 [.int .i64 x, .int .i64 y, .int .i64 z] {}) :: M) () (by omega) rfl (fun _ _ => rfl) (fun _ _ => rfl) (fun _ _ => rfl) (fun _ _ => rfl) ⟨rfl, rfl⟩ (subL.nil _) rfl ?_ ?_ <;> first | (rintro j l2 M' hj rfl; obtain ⟨nm, xa, xb, xc, xd, xe, hrow⟩ := h.ok.orow j hj) | (rintro l2 M' rfl))
    | (refine W1.iaRow rfl rfl h.ok.hO.up (by omega) (by omega) (fun bq oq hrd => ?_); rw [Int.toNat_natCast, hrow] at hrd)
    | refine W1.ldV (vs := [.str nm, .int .i64 xa, .int .i64 xb, .int .i64 xc, .int .i64 xd, .int .i64 xe]) rfl rfl hrd ?_
    | refine W1.ia rfl rfl (by omega) (by omega) ?_
    | refine W1.ldG rfl hr ?_
    | refine W1.alloc (d := 8) rfl (fun b8 => ?_)
    | refine W1.alloc (d := 13) rfl (fun b13 => ?_)
    | refine W1.alloc (d := 10) rfl (fun b10 => ?_)
    | refine W1.alloc (d := 15) rfl (fun b15 => ?_)
    | refine W1.stAll rfl rfl rfl rfl rfl .here ?_
    | (refine W1.callV rfl rfl ((frule hf).mono fun v M' => ?_); rintro ⟨rfl, u1, u2, rfl⟩)
    | (refine W1.callV rfl rfl (WV.func (f52.mono fun v M' => ?_)); rintro ⟨rfl, w, rfl⟩)
    | refine And.intro (rs2 (ReC.ldS rfl rfl (.there .here) rfl) (ReC.ldS rfl rfl (.there (.there .here)) hq)) (And.intro (by simp) ?_)
    | refine W1.iaa rfl rfl hk0 hk1 ?_
    | refine W1.iaa rfl rfl (by decide) (by decide) ?_
    | refine W1.mulU rfl rfl (fun w => ?_)
    | refine W1.addU rfl rfl (fun w => ?_)
    | refine W1.subU rfl rfl (fun w => ?_)
    | refine W1.quoU rfl rfl (by omega) (fun w => ?_)
    | refine W1.ldS rfl (.there (.there .here)) hq (conjR (ReC.ldS rfl rfl (.there (.there .here)) hq) (by simp) ?_)
    | refine W1.ldS rfl (.there (.there .here)) hq ?_
    | refine W1.ldS rfl (.there .here) rfl (conjR (ReC.ldS rfl rfl (.there .here) rfl) (by simp) ?_)
    | refine W1.ldS rfl (.there .here) rfl ?_
    | refine W1.ldAll rfl .here rfl (conjR (ReC.ldAll rfl rfl .here rfl) (by simp) ?_)
    | refine W1.ldAll rfl .here rfl ?_
    | refine WC.condD rfl (fun hp hd => ?_) (fun hp hd => ?_)
    | exact ⟨_, _, [_], rfl, (subL.cons rfl (by repeat (first | exact subL.nil _ | refine subL.cons rfl ?_))), List.Perm.refl _, rfl⟩
    | exact ⟨(), _, [_], rfl, by repeat (first | exact subL.nil _ | refine subL.cons rfl ?_), List.Perm.refl _, rfl⟩
    | exact ⟨by repeat (first | exact Suf.refl | apply Suf.cons), _, _, rfl⟩
    | refine WC.ret ?_
    | (with_reducible refine blockK.rt ?_)
    | (with_reducible refine thenC.nrm ?_)
    | (with_reducible refine thenC.rt ?_)
    | refine WC.seq ?_
    | refine WC.block ?_
    | refine WC.region ?_
    | refine WC.draw ?_
    | refine WC.skip ?_
    | refine WO.nil ?_
    | refine WO.cons ?_
    | refine WD.nil ?_
    | refine WD.cons0 ?_
    | refine WD.consH ?_
    | refine WD.consR ?_
    | refine W1.mv rfl ?_
    | refine W1.nilck rfl ?_
    | refine W1.fa rfl ?_
    | refine W1.fldS rfl rfl ?_
    | refine W1.lss rfl rfl ?_
    | refine W1.leq rfl rfl ?_
    | refine W1.gtr rfl rfl ?_
    | refine Exists.intro _ (And.intro (Res.tmp rfl (Res.tmp rfl Res.nil)) ?_)
    | refine WD.cons ?_
end Go.Ax
end
section
namespace Go.Ax
open Go.Ax.Ir
theorem findK_ok {q : EqK} {Pk Pv : V → Prop} {vk : V} {es : List (V × V × Nat)} (hq : KeyOk q Pk) (hes : ∀ e ∈ es, Pk e.1 ∧ Pv e.2.1) (hv : Pk vk) : ∃ r, findK q vk es = some r ∧ ∀ j v n, r = some (j, v, n) → Pv v := by
  obtain ⟨r, e3⟩ := find_some (q := q) (k := vk) (es := es) 0 fun e he => hq _ _ hv (hes e he).1
  refine ⟨r, by simp [findK, hq _ _ hv hv, e3], fun j v n e => ?_⟩
  subst e
  obtain ⟨k', hk'⟩ := find_mem e3
  exact (hes _ hk').2
theorem WC.isR0 {ft : FT FnR} {g : Gz} {cur : Option Nat} {L : Env} {M : Mem} {K : X → Env → Mem → Prop} (d : Nat) {o : IOp} {gd : Option (Nat × Bool)} {r : List IOper} {b : ICode} (h : WC ft g cur (.seq (.region (⟨some d, o, gd⟩ :: r)) b) L M K) : WC ft g cur (.seq (.region (⟨some d, o, gd⟩ :: r)) b) L M K := h
theorem ReC.slcaAllO {g : Gz} {L : Env} {M : Mem} {d len e o : Nat} {x : Opd} {gd : Option (Nat × Bool)} {b : Nat} {cs : List V} {a : BA} {M' : Mem} (hx : lkO L x = some (.ptr b o)) (hd : lk L d = some (.slice b o len (some len) e)) (hat : At M b (Arr1 cs a) M') (hl : o + len * e ≤ cs.length) : ReC g ⟨some d, .slca len e x none none none, gd⟩ L M :=
  ReC.of hd fun τ hp hh hs => by
    obtain ⟨h0, ⟨ob, e1, e2⟩, _⟩ := hs.mem _ hat.mem
    have e3 : hp.lget b = some (.arr cs a) := lget_of h0 (show hp.get b = some (.arr cs a) by rw [e1, show ob = .arr cs a from e2])
    simp [rdO, slcaF, hh.opd hx, e3, hl, bounds, lo?]
theorem slcRow {g : Gz} {M M1 : Mem} {b : Nat} {a : BA} {x y z : Int} {r : List V} (h : At M b (Arr1 (.int .i64 x :: .int .i64 y :: .int .i64 z :: r) a) M1) : Slc g M (.slice b 0 3 (some 3) 1) 3 1 fun i _ => .int .i64 (if i = 0 then x else if i = 1 then y else z) :=
  Slc.row h (by simp) (fun i hi j hj => by
    obtain rfl : j = 0 := by omega
    rcases i with _ | _ | _ | i
    · rfl
    · rfl
    · rfl
    · omega)
theorem perm_9a (a m b c d : Nat × BP) (l : Mem) : (a :: m :: b :: c :: d :: l).Perm ([a, b, c, d] ++ (m :: l)) := List.Perm.cons a (List.perm_middle (a := m) (l₁ := [b, c, d]) (l₂ := l)).symm
theorem perm_9b (m b c d : Nat × BP) (l : Mem) : (m :: b :: c :: d :: l).Perm ([b, c, d] ++ (m :: l)) := (List.perm_middle (a := m) (l₁ := [b, c, d]) (l₂ := l)).symm
abbrev Z4 : List V := [.int .i64 0, .int .i64 0, .int .i64 0, .bool false]
attribute [local irreducible] W1 WO WC WD WF WV
set_option maxHeartbeats 8000000 in
theorem f54 {g : Gz} {M : Mem} {t : WxD} {bs bm : Nat} {x y z : Int} (h : StF g t bs bm) :
    WF tbl g 54 [.ptr bs 0, .agg [.int .i64 x, .int .i64 y, .int .i64 z]] ((bm, MapOf A3 Fd) :: M) fun v M' => M' = (bm, MapOf A3 Fd) :: M ∧ Fd v := by
  obtain ⟨l0, l1, l2, l4, l5, _, l26⟩ := h.ld
  obtain ⟨v10, v11⟩ := h.val.l1
  obtain ⟨v20, v21⟩ := h.val.l2
  obtain ⟨n1, hn1⟩ : ∃ n1 : Nat, t.l1 + 1 = n1 := ⟨(t.l1 + 1).toNat, by omega⟩
  obtain ⟨n2, hn2⟩ : ∃ n2 : Nat, t.l2 + 1 = n2 := ⟨(t.l2 + 1).toNat, by omega⟩
  refine WF.trim (WF.intro rfl (Nat.le_of_ble_eq_true rfl) ?_)
  refine WC.permM (List.Perm.refl _) (WC.pin fun o ho => ?_)
  obtain ⟨es, clk, rfl, hes⟩ := ho
  obtain ⟨r, hf, hr⟩ := findK_ok (key3 rfl) hes (show A3 (.agg [.int .i64 x, .int .i64 y, .int .i64 z]) from ⟨x, y, z, rfl⟩)
  obtain ⟨w, hw, q0, q1, q2, qk, tt, rfl⟩ : ∃ w, lkV (.agg Z4) r = w ∧ ∃ q0 q1 q2 qk tt, w = .tup [.agg [.int .i64 q0, .int .i64 q1, .int .i64 q2, .bool qk], .bool tt] := by
    rcases r with _ | ⟨j, v, n⟩
    · exact ⟨_, rfl, 0, 0, 0, false, false, rfl⟩
    · obtain ⟨a, b, c, k, rfl⟩ := hr j v n rfl
      exact ⟨_, rfl, a, b, c, k, true, rfl⟩
  repeat' first
    | (with_reducible refine blockK.nrm ?_)
    | (with_reducible refine blockK.here ?_)
    | (with_reducible refine thenC.nrm ?_)
    | (with_reducible refine thenC.rt ?_)
    | (with_reducible refine thenC.ext ?_)
    | ((with_reducible refine WC.isR0 24 ?_); refine WC.permM (perm_n4 _ _ _ _ _) (WC.unpin (b := bm) (p := fun o => o = .map es clk) (p' := MapOf A3 Fd) (fun o e => ⟨es, clk, e, hes⟩) ?_))
    | refine W1.box (d := 3) rfl rfl (fun b3 => ?_)
    | refine W1.alloc (d := 4) rfl (fun b4 => ?_)
    | refine W1.alloc (d := 5) rfl (fun b5 => ?_)
    | refine W1.alloc (d := 7) rfl (fun b7 => ?_)
    | refine W1.ldG rfl l26 (conjR (ReC.ldG rfl rfl l26) (by simp) ?_)
    | refine W1.ldG rfl l1 ?_
    | refine W1.ldG rfl l2 ?_
    | refine W1.ldAll rfl (.there .here) rfl (conjR (ReC.ldAll rfl rfl (.there .here) rfl) (by simp) ?_)
    | refine W1.lkpTo rfl rfl (.there (.there .here)) hf hw (conjR (ReC.lkpTo rfl rfl rfl (.there (.there .here)) hf hw) (by simp) ?_)
    | refine W1.stAll (p := [.int .i64 q0, .int .i64 q1, .int .i64 q2, .bool qk]) rfl rfl rfl rfl rfl .here ?_
    | ((with_reducible refine W1.isDst 25 ?_); refine W1.ldAll rfl (.there .here) rfl ?_)
    | refine W1.stAll (p := [.int .i64 q0, .int .i64 q1, .int .i64 q2, .bool qk]) rfl rfl rfl rfl rfl (.there (.there .here)) ?_
    | exact ⟨_, Res.cell rfl (.there (.there .here)) (rdB_all rfl) Res.nil, (bm, MapOf A3 Fd) :: M, [_, _, _], perm_9b _ _ _ _ _, rfl, _, _, _, _, rfl⟩
    | ((with_reducible refine WC.isLoop 0 ?_); refine WC.forR (blk := 0) (n := n1) [0, 3, 4, 7, 32] (fun _ (_ : Unit) => []) (fun i _ M' => ∃ a b c k, M' = (b7, Arr1 [.int .i64 a, .int .i64 b, .int .i64 c, .bool k] {}) :: (bm, MapOf A3 Fd) :: (b5, Arr1 [.int .i64 q0, .int .i64 q1, .int .i64 q2, .bool qk] {}) :: (b4, Arr1 Z4 {}) :: (b3, Arr1 [.int .i64 x, .int .i64 y, .int .i64 z] {}) :: M) () (by omega) rfl (fun _ _ => by rw [← hn1]; rfl) (fun _ _ => rfl) (fun _ _ => rfl) (fun _ _ => rfl) ⟨rfl, rfl⟩ (subL.nil _) ⟨0, 0, 0, false, rfl⟩ ?_ ?_ <;> first | (rintro i u M' hi ⟨a, b, c, k, rfl⟩) | (rintro u M' ⟨a, b, c, k, rfl⟩))
    | ((with_reducible refine WC.isLoop 2 ?_); refine WC.forR (blk := 2) (n := n2) [0, 3, 4, 7, 8, 32, 33, 42] (fun _ (_ : Unit) => []) (fun i _ M' => ∃ a b c k, M' = (b7, Arr1 [.int .i64 a, .int .i64 b, .int .i64 c, .bool k] {}) :: (bm, MapOf A3 Fd) :: (b5, Arr1 [.int .i64 q0, .int .i64 q1, .int .i64 q2, .bool qk] {}) :: (b4, Arr1 Z4 {}) :: (b3, Arr1 [.int .i64 x, .int .i64 y, .int .i64 z] {}) :: M) () (by omega) rfl (fun _ _ => by rw [← hn2]; rfl) (fun _ _ => rfl) (fun _ _ => rfl) (fun _ _ => rfl) ⟨rfl, rfl⟩ (subL.nil _) ⟨a, b, c, k, rfl⟩ ?_ ?_ <;> first | (rintro j u M' hj ⟨a, b, c, k, rfl⟩) | (rintro u M' ⟨a, b, c, k, rfl⟩))
    | refine W1.iaa rfl rfl (by decide) (by decide) ?_
    | refine W1.add rfl rfl (by omega) (by omega) ?_
    | refine W1.addU rfl rfl (fun z => ?_)
    | refine W1.subU rfl rfl (fun z => ?_)
    | ((with_reducible refine W1.isDst 46 ?_); refine W1.ldAll rfl (.there (.there (.there (.there .here)))) rfl ?_)
    | refine W1.alloc (d := 10) rfl (fun b10 => ?_)
    | refine W1.alloc (d := 13) rfl (fun b13 => ?_)
    | refine W1.stAll rfl rfl rfl rfl rfl .here ?_
    | refine W1.ldS rfl .here rfl ?_
    | refine W1.st rfl rfl rfl rfl .here (Nat.le_of_ble_eq_true rfl) ?_
    | (refine W1.callV rfl rfl (WV.func ((f81 h).mono fun v M' => ?_)); rintro ⟨rfl, p, pk, rfl⟩)
    | (refine W1.callV rfl rfl (WV.func (f52.mono fun v M' => ?_)); rintro ⟨rfl, p2, rfl⟩)
    | (refine W1.callV rfl rfl (WV.func ((f80 (slcRow .here) (slcRow (.there (.there .here))) (by decide)).mono fun v M' => ?_)); rintro ⟨rfl, p3, rfl⟩)
    | exact ⟨(), _, [_], rfl, by repeat (first | exact subL.nil _ | refine subL.cons rfl ?_), List.Perm.refl _, _, _, _, _, rfl⟩
    | exact ⟨(), _, [_, _], rfl, by repeat (first | exact subL.nil _ | refine subL.cons rfl ?_), List.Perm.refl _, _, _, _, _, rfl⟩
    | exact ⟨(), _, [], rfl, by repeat (first | exact subL.nil _ | refine subL.cons rfl ?_), List.Perm.refl _, _, _, _, _, rfl⟩
    | refine W1.ldX rfl .here (Nat.le_of_ble_eq_true rfl) rfl (conjR (ReC.ldX rfl rfl .here (Nat.le_of_ble_eq_true rfl) rfl) (by simp) ?_)
    | refine W1.ldX rfl (.there (.there .here)) (Nat.le_of_ble_eq_true rfl) rfl (conjR (ReC.ldX rfl rfl (.there (.there .here)) (Nat.le_of_ble_eq_true rfl) rfl) (by simp) ?_)
    | refine conjR (ReC.skip rfl (by first | assumption | rfl)) (by simp) ?_
    | refine conjR (ReC.skip_u rfl) (by simp) ?_
    | refine W1.slcaAllO rfl .here (Nat.le_of_ble_eq_true rfl) (conjR (ReC.slcaAllO rfl rfl .here (Nat.le_of_ble_eq_true rfl)) (by simp) ?_)
    | refine W1.slcaAllO rfl (.there (.there .here)) (Nat.le_of_ble_eq_true rfl) (conjR (ReC.slcaAllO rfl rfl (.there (.there .here)) (Nat.le_of_ble_eq_true rfl)) (by simp) ?_)
    | ((with_reducible refine W1.isDst 59 ?_); refine W1.ldAll rfl .here rfl ?_)
    | ((with_reducible refine W1.isDst 103 ?_); refine W1.ldAll rfl (.there (.there (.there (.there .here)))) rfl (conjR (ReC.ldAll rfl rfl (.there (.there (.there (.there .here)))) rfl) (by simp) ?_))
    | ((with_reducible refine W1.isDst 105 ?_); refine W1.ldAll rfl .here rfl ?_)
    | refine W1.mapup rfl rfl rfl (.there .here) (key3 rfl) ⟨_, _, _, rfl⟩ ⟨_, _, _, _, rfl⟩ ?_
    | refine W1.stAll rfl rfl rfl rfl rfl (.there (.there (.there .here))) ?_
    | exact ⟨_, Res.cell rfl (.there (.there (.there .here))) (rdB_all rfl) Res.nil, (bm, MapOf A3 Fd) :: M, [_, _, _, _], perm_9a _ _ _ _ _ _, rfl, _, _, _, _, rfl⟩
    | ((with_reducible refine W1.isDst 96 ?_); refine W1.ldAll rfl .here rfl ?_)
    | refine W1.stAll rfl rfl rfl rfl rfl (.there (.there .here)) ?_
    | refine W1.eqv rfl rfl rfl ?_
    | refine WC.ret ?_
    | refine WC.seq ?_
    | refine WC.block ?_
    | refine WC.region ?_
    | refine WC.draw ?_
    | refine WC.scope ?_
    | refine WC.skip ?_
    | refine WC.exit ?_
    | refine WC.cond_t rfl (by first | assumption | rfl) ?_
    | refine WC.cond_f rfl (by first | assumption | rfl) ?_
    | refine WC.cond rfl (fun hc => ?_) (fun hc => ?_)
    | refine WO.nil ?_
    | refine WO.cons ?_
    | refine WD.nil ?_
    | refine WD.cons0 ?_
    | refine WD.consH ?_
    | refine WD.consR ?_
    | refine W1.guard_y rfl (by first | assumption | rfl) ?_
    | refine W1.guard_n rfl (by first | assumption | rfl) ?_
    | refine W1.guard_u rfl ?_
    | refine W1.guard rfl (fun hc => ?_) (fun hc => ?_)
    | refine W1.pick_t rfl (by first | assumption | rfl) rfl ?_
    | refine W1.pick_f rfl (by first | assumption | rfl) rfl ?_
    | refine W1.mv rfl ?_
    | refine W1.nilck rfl ?_
    | refine W1.fa rfl ?_
    | refine W1.ext rfl rfl ?_
    | refine W1.lss rfl rfl ?_
    | refine W1.eql rfl rfl ?_
    | refine W1.not rfl ?_
    | refine W1.bld rfl rfl ?_
  all_goals trace_state
end Go.Ax
end
section
namespace Go.Ax
open Go.Ax.Ir
def LstP (P : V → Prop) (s : V) (k : Nat) (X : Mem) : Prop := (s = .nilslice ∧ k = 0 ∧ X = []) ∨ ∃ b cs, s = .slice b 0 k none 1 ∧ cs.length = k ∧ (∀ c ∈ cs, P c) ∧ k ≠ 0 ∧ X = [(b, Arr1 cs {})]
def Bd (n : Nat) (c : V) : Prop := ∃ q, c = .int .i64 q ∧ 0 ≤ q ∧ q < n
theorem LstP.scalar {P : V → Prop} {s : V} {k : Nat} {X : Mem} (h : LstP P s k X) : s.scalar = true := by
  rcases h with ⟨rfl, _, _⟩ | ⟨b, cs, rfl, _⟩ <;> rfl
theorem LstP.mono {P Q : V → Prop} {s : V} {k : Nat} {X : Mem} (h : LstP P s k X) (hq : ∀ v, P v → Q v) : LstP Q s k X := by
  rcases h with h | ⟨b, cs, h1, h2, h3, h4, h5⟩
  · exact Or.inl h
  · exact Or.inr ⟨b, cs, h1, h2, fun c hc => hq c (h3 c hc), h4, h5⟩
theorem LstP.lst {n : Nat} {s : V} {k : Nat} {X : Mem} (h : LstP (Bd n) s k X) : LstI s k X := by
  rcases h with h | ⟨b, cs, h1, h2, h3, h4, h5⟩
  · exact Or.inl h
  · exact Or.inr ⟨b, cs, h1, h2, fun c hc => by obtain ⟨q, e, _⟩ := h3 c hc; exact ⟨q, e⟩, h4, h5⟩
theorem Slc.memB {g : Gz} {M : Mem} {b k : Nat} {cap : Option Nat} {cs : List V} {a : BA} {el : Nat → Nat → V} (hm : (b, Arr1 cs a) ∈ M) (hc : ∀ c, cap = some c → k ≤ c) (h : ∀ i, i < k → ∀ j, j < 1 → cs[i * 1 + j]? = some (el i j)) : Slc g M (.slice b 0 k cap 1) k 1 el :=
  Or.inr ⟨b, 0, cap, rfl, hc, fun hp hs => by
    obtain ⟨h0, ⟨ob, h1, h2⟩, _⟩ := hs.mem _ hm
    exact ⟨cs, a, h0, by rw [h1, show ob = .arr cs a from h2], fun i hi j hj => by rw [Nat.zero_add]; exact h i hi j hj⟩⟩
theorem LstP.slc {g : Gz} {n : Nat} {s : V} {k : Nat} {X : Mem} (h : LstP (Bd n) s k X) : ∃ num : Nat → Int, (∀ i, i < k → 0 ≤ num i ∧ num i < n) ∧ ∀ M, (∀ p ∈ X, p ∈ M) → Slc g M s k 1 fun i _ => .int .i64 (num i) := by
  rcases h with ⟨rfl, rfl, rfl⟩ | ⟨b, cs, rfl, hl, hi, h0, rfl⟩
  · exact ⟨fun _ => 0, fun i hi => by omega, fun M _ => Or.inl ⟨rfl, rfl⟩⟩
  · refine ⟨fun i => match cs[i]? with | some (.int _ n) => n | _ => 0, fun i hik => ?_, fun M hM => Slc.memB (a := {}) (cs := cs) (hM _ (List.mem_singleton.2 rfl)) (by simp) fun i hik j hj => ?_⟩
    · obtain ⟨q, e, h1, h2⟩ := hi _ (List.getElem_mem (by omega : i < cs.length))
      have e2 : cs[i]? = some (.int .i64 q) := by rw [List.getElem?_eq_getElem (by omega), e]
      simp only [e2]; exact ⟨h1, h2⟩
    · obtain rfl : j = 0 := by omega
      obtain ⟨q, e, h1, h2⟩ := hi _ (List.getElem_mem (by omega : i < cs.length))
      have e2 : cs[i]? = some (.int .i64 q) := by rw [List.getElem?_eq_getElem (by omega), e]
      simp only [Nat.mul_one, Nat.add_zero, e2]
section
variable {ft : FT FnR} {g : Gz}
theorem W1.appP {P : V → Prop} {bytes : Nat} {L : Env} {A B : Mem} {K : Env → Mem → Prop} {d k bs : Nat} {x y : Opd} {s v : V} {X : Mem} {c : Option Nat} {M1 : Mem} (hs : lkO L x = some s) (hX : LstP P s k X) (hv : P v) (hy : lkO L y = some (.slice bs 0 1 c 1)) (hbs : At (A ++ (X ++ B)) bs (Arr1 [v] {}) M1) (hb : bytes ≤ 24) (hk : k + 1 ≤ 1000000)
    (h : ∀ s' X', LstP P s' (k + 1) X' → K ((d, s') :: L) (X' ++ (A ++ B))) : W1 ft g ⟨some d, .app 1 bytes x y, none⟩ L (A ++ (X ++ B)) K := by
  have hlm : limit = 35184372088832 := rfl
  rcases hX with ⟨rfl, rfl, rfl⟩ | ⟨bA, cs, rfl, hcs, hci, hk0, rfl⟩
  · refine W1.appN (n := 1) hs hy (Src.row hbs (Nat.le_of_ble_eq_true rfl)) (by decide) (by omega) (fun b' => ?_)
    exact h _ [(b', _)] (Or.inr ⟨b', _, rfl, rfl, fun w hw => by
      obtain rfl : w = v := by simpa using hw
      exact hv, by decide, rfl⟩)
  · refine W1.app (n := 1) hs hy (Src.row hbs (Nat.le_of_ble_eq_true rfl)) (by decide) (At.app .here) (by omega) (by
      have : (k + 1) * bytes ≤ 1000000 * 24 := Nat.mul_le_mul hk hb
      omega) (fun b' => ?_)
    refine h _ [(b', Arr1 (cs.drop 0 ++ [v]) {})] (Or.inr ⟨b', cs.drop 0 ++ [v], rfl, ?_, ?_, by omega, rfl⟩)
    · simp [hcs]
    · intro w hw
      simp only [List.drop_zero, List.mem_append, List.mem_singleton] at hw
      rcases hw with hw | rfl
      · exact hci w hw
      · exact hv
end
def zt : List Nat := [0, 1, 56, 2, 57, 49, 28, 3, 61, 58, 42, 50, 38, 29, 17, 4, 62, 47, 59, 36, 45, 43, 51, 22, 53, 39, 33, 30, 24, 18, 12, 5, 63, 55, 48, 27, 60, 41, 37, 16, 46, 35, 44, 21, 52, 32, 23, 11, 54, 26, 40, 15, 34, 20, 31, 10, 25, 14, 19, 9, 13, 8, 7, 6]
def TZ (g : Gz) : Prop := ∃ cs, g 1 = some (.arr cs { ro := true }) ∧ ∀ i, i < 64 → ∃ n : Nat, cs[i]? = some (.int .u8 n) ∧ zt[i]? = some n
theorem TZ.lessG {g g' : Gz} (hg : g.le g') (h : TZ g) : TZ g' := by
  obtain ⟨cs, h1, h2⟩ := h
  exact ⟨cs, hg _ _ h1, h2⟩
def tzC (s : Int) : Bool := match binI .and .u64 s .u64 (IntKind.u64.wrap (0 - s)) with
  | some (.int .u64 a) => match binI .mul .u64 a .u64 285870213051353865 with
    | some (.int .u64 m) => match binI .shr .u64 m .u64 58 with
      | some (.int .u64 q) => decide (0 ≤ q) && decide (q < 64) && (match zt[q.toNat]? with | some n => decide (2 ^ n ≤ s.toNat) && decide (n < 64) | none => false)
      | _ => false
    | _ => false
  | _ => false
theorem tz_all : ∀ s : Fin 64, s.val = 0 ∨ tzC (s.val : Int) = true := by decide +kernel
theorem tz_at {s : Int} (h0 : 1 ≤ s) (h1 : s < 64) : ∃ a m q : Int, ∃ n : Nat, binI .and .u64 s .u64 (IntKind.u64.wrap (0 - s)) = some (.int .u64 a) ∧ binI .mul .u64 a .u64 285870213051353865 = some (.int .u64 m) ∧ binI .shr .u64 m .u64 58 = some (.int .u64 q) ∧ 0 ≤ q ∧ q < 64 ∧ zt[q.toNat]? = some n ∧ 2 ^ n ≤ s.toNat ∧ n < 64 := by
  have h := tz_all ⟨s.toNat, by omega⟩
  have e : ((s.toNat : Nat) : Int) = s := Int.toNat_of_nonneg (by omega)
  simp only [e] at h
  rcases h with h | h
  · omega
  · unfold tzC at h
    split at h
    · next a ea =>
      split at h
      · next m em =>
        split at h
        · next q eq =>
          split at h
          · next n en =>
            simp only [Bool.and_eq_true, decide_eq_true_eq] at h
            exact ⟨a, m, q, n, ea, em, eq, h.1.1, h.1.2, en, h.2.1, h.2.2⟩
          · simp at h
        · cases h
      · cases h
    · cases h
theorem TZ.ld {g : Gz} (h : TZ g) {z : Int} {n : Nat} (h0 : 0 ≤ z) (h1 : z < 64) (hz : zt[z.toNat]? = some n) : rdAgg g false 1 (0 + z.toNat * 1) 1 = some (.int .u8 n) := by
  obtain ⟨cs, e1, h2⟩ := h
  obtain ⟨n', e2, e3⟩ := h2 z.toNat (by omega)
  rw [hz] at e3; injection e3 with e3; subst e3
  simp [rdAgg, e1, e2]
def anC (s : Int) : Bool := match binI .and .i64 s .i64 (s - 1) with
  | some (.int .i64 r) => decide (0 ≤ r) && decide (r < s)
  | _ => false
theorem an_all : ∀ s : Fin 64, s.val = 0 ∨ anC (s.val : Int) = true := by decide +kernel
theorem an_at {s : Int} (h0 : 1 ≤ s) (h1 : s < 64) : ∃ r : Int, binI .and .i64 s .i64 (s - 1) = some (.int .i64 r) ∧ 0 ≤ r ∧ r < s := by
  have h := an_all ⟨s.toNat, by omega⟩
  have e : ((s.toNat : Nat) : Int) = s := Int.toNat_of_nonneg (by omega)
  simp only [e] at h
  rcases h with h | h
  · omega
  · unfold anC at h
    split at h
    · next r er =>
      simp only [Bool.and_eq_true, decide_eq_true_eq] at h
      exact ⟨r, er, h⟩
    · cases h
theorem W1.neg0 {ft : FT FnR} {g : Gz} {L : Env} {M : Mem} {K : Env → Mem → Prop} {d : Nat} {x : Opd} {k : IntKind} {a : Int} (hx : lkO L x = some (.int k a)) (h : K ((d, .int k (k.wrap (0 - a))) :: L) M) : W1 ft g ⟨some d, .un .neg x, none⟩ L M K :=
  W1.pure (v := .int k (k.wrap (0 - a))) rfl (fun τ hl => by simp only [puO, hl.opd hx]) h
attribute [local irreducible] W1 WO WC WD WF WV
theorem f97 {g : Gz} {M : Mem} {s : Int} (ht : TZ g) (h0 : 1 ≤ s) (h1 : s < 64) : WF tbl g 97 [.int .u64 s] M fun v M' => M' = M ∧ ∃ n : Nat, v = .int .i64 n ∧ 2 ^ n ≤ s.toNat := by
  obtain ⟨a, m, q, n, ea, em, eq, hq0, hq1, hz, hn, hn2⟩ := tz_at h0 h1
  have d0 : decide (s = 0) = false := decide_eq_false (by omega)
  refine WF.intro rfl (Nat.le_of_ble_eq_true rfl) ?_
  repeat' first
    | refine W1.neg0 rfl ?_
    | refine W1.bin rfl rfl ea ?_
    | refine W1.bin rfl rfl em ?_
    | refine W1.bin rfl rfl eq ?_
    | refine W1.iaa rfl rfl hq0 hq1 ?_
    | refine W1.ldG rfl (ht.ld hq0 hq1 hz) ?_
    | refine W1.conv64 rfl (by omega) (by omega) ?_
    | refine WC.ret ?_
    | refine WC.seq ?_
    | refine WC.region ?_
    | refine WC.skip ?_
    | refine WC.cond_f rfl (by first | assumption | rfl) ?_
    | refine WO.nil ?_
    | refine WO.cons ?_
    | refine W1.mv rfl ?_
    | refine W1.eql rfl rfl ?_
    | refine Exists.intro _ (And.intro (Res.tmp rfl Res.nil) ?_)
  exact ⟨rfl, n, rfl, hn⟩
theorem f89 {g : Gz} {M : Mem} {s : Int} (ht : TZ g) (h0 : 1 ≤ s) (h1 : s < 64) : WF tbl g 89 [.int .u64 s] M fun v M' => M' = M ∧ ∃ n : Nat, v = .int .i64 n ∧ 2 ^ n ≤ s.toNat := by
  refine WF.intro rfl (Nat.le_of_ble_eq_true rfl) ?_
  repeat' first
    | (refine W1.callV rfl rfl (WV.func ((f97 ht h0 h1).mono fun v M' => ?_)); rintro ⟨rfl, n, rfl, hn⟩)
    | refine WC.cond_f rfl rfl ?_
    | refine WC.ret ?_
    | refine WC.seq ?_
    | refine WC.region ?_
    | refine WC.skip ?_
    | refine WO.nil ?_
    | refine WO.cons ?_
    | refine W1.mv rfl ?_
    | refine Exists.intro _ (And.intro (Res.tmp rfl Res.nil) ?_)
  exact ⟨rfl, n, rfl, hn⟩
set_option maxHeartbeats 1000000 in
theorem f76 {g : Gz} {M : Mem} {s0 : Int} {nb : Nat} (ht : TZ g) (h0 : 0 ≤ s0) (hb : s0 < (2 ^ nb : Nat)) (hnb : nb ≤ 6) : WF tbl g 76 [.int .i64 s0] M fun v M' => ∃ k X, LstP (Bd nb) v k X ∧ k ≤ 64 ∧ M' = X ++ M := by
  have hp : (2 ^ nb : Nat) ≤ 64 := Nat.pow_le_pow_right (by decide : 0 < 2) hnb
  refine WF.intro rfl (Nat.le_of_ble_eq_true rfl) ?_
  repeat' first
    | (refine WC.loopT (ι := Int × V) (fun x => x.1.toNat) (fun x => [(0, .int .i64 x.1), (2, x.2)]) (fun x M' => 0 ≤ x.1 ∧ x.1 ≤ s0 ∧ ∃ (k : Nat) (X : Mem), LstP (Bd nb) x.2 k X ∧ k + x.1 ≤ s0 ∧ M' = X ++ M) ?_ (s0, .nilslice) _ _ (subL.cons rfl (subL.cons rfl (subL.nil _))) ⟨h0, Int.le_refl _, 0, [], Or.inl ⟨rfl, rfl, rfl⟩, by simp, rfl⟩)
    | refine WC.seq ?_
    | refine WC.block ?_
    | refine WC.region ?_
    | refine WO.nil ?_
    | refine WO.cons ?_
    | refine W1.mv rfl ?_
  rintro ⟨s, l⟩ M' ⟨h0, h7, k, X, hX, hk, rfl⟩
  dsimp only at h0 h7 hX hk ⊢
  by_cases hs : s = 0
  · subst hs
    repeat' first
      | refine WC.cond_f rfl rfl ?_
      | refine WC.ret ?_
      | refine WC.seq ?_
      | refine WC.region ?_
      | refine WC.exit ?_
      | refine WO.nil ?_
      | refine WO.cons ?_
      | refine W1.mv rfl ?_
      | refine W1.neq rfl rfl ?_
      | refine Exists.intro _ (And.intro (Res.tmp rfl Res.nil) ?_)
    exact ⟨k, X, hX, by omega, rfl⟩
  · obtain ⟨s', ha, g0, g1⟩ := an_at (s := s) (by omega) (by omega)
    have hdec : (!decide (s = 0)) = true := by simp [hs]
    repeat' first
      | refine WC.cond_t rfl hdec ?_
      | refine W1.convN rfl (by omega) (by omega) ?_
      | (refine W1.callV rfl rfl (WV.func ((f89 ht (by omega) (by omega)).mono fun v M' => ?_)); rintro ⟨rfl, q, rfl, hq⟩; have hq2 : q < nb := (Nat.pow_lt_pow_iff_right (a := 2) (by decide)).1 (by omega))
      | refine W1.bldS rfl rfl rfl (fun bs => ?_)
      | refine W1.appP (A := [_]) rfl hX ⟨q, rfl, by omega, by omega⟩ rfl .here (by decide) (by omega) (fun s2 X2 hX2 => ?_)
      | refine W1.bin rfl rfl ha ?_
      | refine WC.seq ?_
      | refine WC.block ?_
      | refine WC.region ?_
      | refine WC.skip ?_
      | refine WO.nil ?_
      | refine WO.cons ?_
      | refine W1.mv rfl ?_
      | refine W1.neq rfl rfl ?_
      | refine W1.sub rfl rfl (by omega) (by omega) ?_
    exact ⟨(s', s2), X2 ++ M, [_], by simp only; omega, by repeat (first | exact subL.nil _ | refine subL.cons rfl ?_), perm_sw _ _ _, g0, by simp only; omega, k + 1, X2, hX2, by simp only; omega, rfl⟩
def SX (X : Mem) (nb : Nat) (v : V) : Prop := ∃ k Y, LstP (Bd nb) v k Y ∧ k ≤ 64 ∧ ∀ p ∈ Y, p ∈ X
theorem SX.up {X : Mem} {nb : Nat} {v : V} (h : SX X nb v) (Y : Mem) : SX (Y ++ X) nb v := by
  obtain ⟨k, Z, h1, h2, h3⟩ := h
  exact ⟨k, Z, h1, h2, fun p hp => List.mem_append_right _ (h3 p hp)⟩
theorem SX.scalar {X : Mem} {nb : Nat} {v : V} (h : SX X nb v) : v.scalar = true := by
  obtain ⟨k, Z, h1, _⟩ := h
  exact h1.scalar
theorem f79 {g : Gz} {M : Mem} {u v : V} {n m : Nat} {num num2 : Nat → Int} (hs : Slc g M u n 1 fun i _ => .int .i64 (num i)) (hs2 : Slc g M v m 1 fun i _ => .int .i64 (num2 i)) (hn : n ≤ 1000) (hm : m ≤ 1000) :
    WF tbl g 79 [u, v] M fun r M' => M' = M ∧ ∃ k : Int, r = .int .i64 k := by
  refine WF.intro rfl (Nat.le_of_ble_eq_true rfl) ?_
  repeat' first
    | refine W1.lenSlc rfl hs ?_
    | refine W1.lenSlc rfl hs2 ?_
    | refine W1.subU rfl rfl (fun z => ?_)
    | (refine W1.callV rfl rfl (WV.func ((f80 hs hs2 (by omega)).mono fun v M' => ?_)); rintro ⟨rfl, k, rfl⟩)
    | refine WC.ret ?_
    | refine WC.seq ?_
    | refine WC.region ?_
    | refine WC.skip ?_
    | refine WC.cond rfl (fun hc => ?_) (fun hc => ?_)
    | refine WO.nil ?_
    | refine WO.cons ?_
    | refine W1.mv rfl ?_
    | refine W1.neq rfl rfl ?_
    | refine Exists.intro _ (And.intro (Res.tmp rfl Res.nil) ?_)
  all_goals exact ⟨rfl, _, rfl⟩
theorem cmpX {g : Gz} {X M : Mem} {nb : Nat} (hX : ∀ p ∈ X, p ∈ M) : CmpS g (.func 79 [] []) (SX X nb) M := by
  rintro u v M2 ⟨k, Y, h1, h2, h3⟩ ⟨k', Y', h1', h2', h3'⟩ ⟨R, rfl⟩
  obtain ⟨num, _, hn⟩ := h1.slc (g := g)
  obtain ⟨num', _, hn'⟩ := h1'.slc (g := g)
  exact WV.func (f79 (hn _ fun p hp => List.mem_append_right _ (hX p (h3 p hp))) (hn' _ fun p hp => List.mem_append_right _ (hX p (h3' p hp))) (by omega) (by omega))
theorem f77 {g : Gz} {M M1 : Mem} {t : WxD} {bs bm b1 : Nat} {h : Int} (hF : StF g t bs bm) (h1 : At M b1 (Arr1 [.ptr bs 0] {}) M1) (h0 : 0 ≤ h) (hh : h < t.nH) : WF tbl g 77 [.int .i64 h, .ptr b1 0] M fun v M' => M' = M ∧ ∃ k, v = .bool k := by
  obtain ⟨l0, l1, l2, l4, l5, _, l26⟩ := hF.ld
  obtain ⟨nm, xa, xb, xc, xd, xe, hr⟩ := hF.ok.hrow h.toNat (by omega)
  refine WF.intro rfl (Nat.le_of_ble_eq_true rfl) ?_
  repeat' first
    | refine W1.ldS rfl h1 rfl ?_
    | refine W1.ldG rfl l4 ?_
    | (refine W1.iaRow rfl rfl hF.ok.hH.up h0 hh (fun bq oq hrd => ?_); rw [hr] at hrd)
    | refine W1.ldR rfl (hrd.at 5 rfl) ?_
    | refine WC.ret ?_
    | refine WC.seq ?_
    | refine WC.region ?_
    | refine WO.nil ?_
    | refine WO.cons ?_
    | refine W1.mv rfl ?_
    | refine W1.nilck rfl ?_
    | refine W1.fa rfl ?_
    | refine Exists.intro _ (And.intro (Res.tmp rfl Res.nil) ?_)
  exact ⟨rfl, _, rfl⟩
theorem f53 {g : Gz} {M : Mem} {v : V} (hv : v.scalar = true) (hc : v.cells = [v]) : WF tbl g 53 [v] M fun r M' => ∃ b1, r = .func 75 [] [.ptr b1 0] ∧ M' = (b1, Arr1 [v] {}) :: M := by
  refine WF.intro rfl (Nat.le_of_ble_eq_true rfl) ?_
  repeat' first
    | refine W1.box (d := 1) rfl (by rw [hc]; simp [hv]) (fun b1 => ?_)
    | refine WC.ret ?_
    | refine WC.seq ?_
    | refine WC.region ?_
    | refine WO.nil ?_
    | refine WO.cons ?_
    | refine W1.mv rfl ?_
    | refine W1.mkfn rfl rfl ?_
    | refine Exists.intro _ (And.intro (Res.tmp rfl Res.nil) ?_)
  exact ⟨b1, rfl, by rw [hc]⟩
end Go.Ax
end
