import Derived.Test.YtofcejekdppbnaaA4
import Derived.Test.YtofcejekdppbnaaB
import Derived.Test.YtofcejekdppbnaaA3
set_option linter.unusedSectionVars false
set_option linter.unusedVariables false
set_option linter.unusedSimpArgs false
section
namespace Go.Ax
open Go.Ax.Ir
theorem f73 {g : Gz} {n lo hi : Int} {bl bh : Nat} {M M1 M2 : Mem} (h1 : At M bl (Arr1 [.int .i64 lo] {}) M1) (h2 : At M bh (Arr1 [.int .i64 hi] {}) M2) :
    WF tbl g 73 [.int .i64 n, .ptr bl 0, .ptr bh 0] M fun v M' => M' = M ∧ ∃ t, v = .bool t ∧ (t = false → lo ≤ n ∧ n ≤ hi) := by
  refine WF.intro rfl (Nat.le_of_ble_eq_true rfl) ?_
  repeat' first
    | refine WC.seq ?_
    | refine WC.region ?_
    | refine WC.ret ?_
    | refine WO.nil ?_
    | refine WO.cons ?_
    | refine W1.mv rfl ?_
    | refine W1.ldS rfl h1 rfl ?_
    | refine W1.ldS rfl h2 rfl ?_
    | refine W1.lss rfl rfl ?_
    | refine W1.gtr rfl rfl ?_
    | refine W1.guard_y rfl (by assumption) ?_
    | refine W1.guard_n rfl (by assumption) ?_
    | refine W1.guard rfl (fun hc => ?_) (fun hc => ?_)
    | refine W1.pick_t rfl (by assumption) rfl ?_
    | refine W1.pick_f rfl (by assumption) rfl ?_
    | refine Exists.intro _ (And.intro (Res.tmp rfl Res.nil) ?_)
  · exact ⟨rfl, _, rfl, fun h => by simp at h hc; omega⟩
  · exact ⟨rfl, _, rfl, fun h => by cases h⟩
theorem f91 {g : Gz} {M : Mem} {s fv : V} {n : Nat} {el : Nat → Nat → V} {R : Nat → Bool → Prop} (hs : Slc g M s n 1 el) (hn : n ≤ 1000000000000)
    (hf : ∀ i, i < n → WV tbl g fv [el i 0] M fun v M' => M' = M ∧ ∃ t, v = .bool t ∧ R i t) :
    WF tbl g 91 [s, fv] M fun v M' => M' = M ∧ ∃ k : Int, v = .int .i64 k ∧ (k < 0 → ∀ i, i < n → R i false) := by
  refine WF.intro rfl (Nat.le_of_ble_eq_true rfl) ?_
  refine WC.seq (WC.region (WO.cons (W1.mv rfl (WO.nil ?_))))
  refine WC.seq (WC.seq (WC.region (WO.cons (W1.mv rfl (WO.cons (W1.lenSlc rfl hs (WO.cons (W1.mv rfl (WO.nil ?_)))))))))
  refine WC.block ?_
  refine WC.loopE (ι := Int) (fun i => (n - i).toNat) (fun i => [(0, s), (1, fv), (7, .int .i64 n), (8, .int .i64 i)]) (fun i M' => 0 ≤ i ∧ i ≤ n ∧ M' = M ∧ ∀ j : Nat, (j : Int) < i → R j false) ?_ 0 _ _
    (by repeat (first | exact subL.nil _ | refine subL.cons rfl ?_)) ⟨by omega, by omega, rfl, fun j h => by omega⟩
  rintro i M' ⟨h0, h1, rfl, hR⟩
  repeat' first
    | refine WC.seq ?_
    | refine WC.block ?_
    | refine WC.region ?_
    | refine WC.skip ?_
    | refine WC.exit ?_
    | refine WC.ret ?_
    | refine WC.cond rfl (fun hc => ?_) (fun hc => ?_)
    | refine WO.nil ?_
    | refine WO.cons ?_
    | refine W1.mv rfl ?_
    | refine W1.lss rfl rfl ?_
    | refine W1.add rfl rfl (by omega) (by omega) ?_
    | refine W1.iaSlc rfl rfl hs (by omega) (by have := of_decide_eq_true ‹decide _ = true›; omega) (fun b o hrd => ?_)
    | refine W1.ldR rfl (hrd 0 (by omega)) ?_
    | (refine W1.callV rfl rfl ((hf i.toNat (by have := of_decide_eq_true ‹decide _ = true›; omega)).mono fun v M' => ?_); rintro ⟨rfl, t, rfl, ht⟩)
    | refine Exists.intro _ (And.intro (Res.tmp rfl Res.nil) ?_)
  · exact ⟨rfl, i, rfl, fun h => by omega⟩
  · have hlt := of_decide_eq_true ‹decide (i < (n : Int)) = true›
    refine ⟨i + 1, by omega, by repeat (first | exact subL.nil _ | refine subL.cons rfl ?_), by omega, by omega, rfl, fun j hj => ?_⟩
    by_cases hji : (j : Int) < i
    · exact hR j hji
    · have : j = i.toNat := by omega
      subst this
      exact hc ▸ ht
  · have hge := of_decide_eq_false hc
    exact ⟨rfl, -1, rfl, fun _ j hj => hR j (by omega)⟩
theorem f72 {g : Gz} {M : Mem} {s fv : V} {n : Nat} {el : Nat → Nat → V} {R : Nat → Bool → Prop} (hs : Slc g M s n 1 el) (hn : n ≤ 1000000000000)
    (hf : ∀ i, i < n → WV tbl g fv [el i 0] M fun v M' => M' = M ∧ ∃ t, v = .bool t ∧ R i t) :
    WF tbl g 72 [s, fv] M fun v M' => M' = M ∧ ∃ t, v = .bool t ∧ (t = false → ∀ i, i < n → R i false) := by
  refine WF.intro rfl (Nat.le_of_ble_eq_true rfl) ?_
  repeat' first
    | refine WC.seq ?_
    | refine WC.region ?_
    | refine WC.ret ?_
    | refine WO.nil ?_
    | refine WO.cons ?_
    | refine W1.mv rfl ?_
    | refine W1.geq rfl rfl ?_
    | (refine W1.callV rfl rfl (WV.func ((f91 hs hn hf).mono fun v M' => ?_)); rintro ⟨rfl, k, rfl, hk⟩)
    | refine Exists.intro _ (And.intro (Res.tmp rfl Res.nil) ?_)
  exact ⟨rfl, _, rfl, fun h => hk (by simp at h; omega)⟩
theorem f40 {g : Gz} {M : Mem} {s : V} {n : Nat} {lo hi : Int} {num : Nat → Int} (hs : Slc g M s n 1 fun i _ => .int .i64 (num i)) (hn : n ≤ 1000000000000) :
    WF tbl g 40 [.int .i64 lo, .int .i64 hi, s] M fun v M' => M' = M ∧ ∃ t, v = .bool t ∧ (t = false → ∀ i, i < n → lo ≤ num i ∧ num i ≤ hi) := by
  refine WF.intro rfl (Nat.le_of_ble_eq_true rfl) ?_
  repeat' first
    | refine WC.seq ?_
    | refine WC.region ?_
    | refine WC.drop ((List.sublist_cons_self _ _).trans (List.sublist_cons_self _ _)) (WC.ret ?_)
    | refine WO.nil ?_
    | refine WO.cons ?_
    | refine W1.mv rfl ?_
    | refine W1.box rfl rfl (fun b => ?_)
    | refine W1.mkfn rfl rfl ?_
    | (refine W1.callV rfl rfl (WV.func ((f72 hs.cons.cons hn (R := fun i t => t = false → lo ≤ num i ∧ num i ≤ hi) (fun i hi => WV.func (f73 (.there .here) .here))).mono fun v M' => ?_)); rintro ⟨rfl, t, rfl, ht⟩)
    | refine Exists.intro _ (And.intro (Res.tmp rfl Res.nil) ?_)
  exact ⟨rfl, _, rfl, fun h i hi => ht h i hi rfl⟩
end Go.Ax
end
section
namespace Go.Ax
open Go.Ax.Ir
attribute [local irreducible] W1 WO WC WD WF WV
theorem f92 {g : Gz} {s : List UInt8} : WF tbl g 92 [.str s] [] fun v M' => M' = [] ∧ ∃ t, v = .bool t := by
  refine WF.intro rfl (Nat.le_of_ble_eq_true rfl) ?_
  refine WC.seq (WC.region (WO.cons (W1.mv rfl (WO.nil ?_))))
  refine WC.seq (WC.seq (WC.region (WO.cons (W1.mv rfl (WO.cons (W1.rng rfl fun b => WO.nil ?_))))))
  refine WC.block ?_
  refine WC.loopE (ι := Nat) (fun i => s.length - i) (fun _ => [(0, .str s), (7, .ptr b 0)]) (fun i M' => M' = [(b, IterAt s i)]) ?_ 0 _ _
    (by repeat (first | exact subL.nil _ | refine subL.cons rfl ?_)) rfl
  rintro i M' rfl
  repeat' first
    | refine WC.seq ?_
    | refine WC.block ?_
    | refine WC.region ?_
    | refine WC.skip ?_
    | refine WC.exit ?_
    | refine WC.drop (List.nil_sublist _) (WC.ret ?_)
    | refine WC.cond_t rfl (by first | assumption | rfl) ?_
    | refine WC.cond_f rfl (by first | assumption | rfl) ?_
    | refine WC.cond rfl (fun hc => ?_) (fun hc => ?_)
    | refine WO.nil ?_
    | refine WO.cons ?_
    | refine W1.mv rfl ?_
    | refine W1.nxt rfl (fun w => .here) (fun hlt c w hw => ?_) (fun hge => ?_)
    | refine W1.ext rfl rfl ?_
    | refine W1.lss rfl rfl ?_
    | refine W1.gtr rfl rfl ?_
    | refine W1.leq rfl rfl ?_
    | refine W1.eql rfl rfl ?_
    | refine W1.neq rfl rfl ?_
    | refine W1.not rfl ?_
    | refine W1.lenS rfl ?_
    | refine W1.cmpS rfl rfl (by simp) rfl (fun t _ => ?_)
    | refine W1.guard_u rfl ?_
    | refine W1.guard_y rfl (by first | assumption | rfl) ?_
    | refine W1.guard_n rfl (by first | assumption | rfl) ?_
    | refine W1.guard rfl (fun hc => ?_) (fun hc => ?_)
    | refine W1.pick_t rfl (by first | assumption | rfl) rfl ?_
    | refine W1.pick_f rfl (by first | assumption | rfl) rfl ?_
    | refine Exists.intro _ (And.intro (Res.tmp rfl Res.nil) ?_)
  all_goals first
    | exact ⟨rfl, _, rfl⟩
    | exact ⟨w, by omega, by repeat (first | exact subL.nil _ | refine subL.cons rfl ?_), rfl⟩
end Go.Ax
end
section
namespace Go.Ax
open Go.Ax.Ir
attribute [local irreducible] W1 WO WC WD WF WV
theorem f75 {g : Gz} {M : Mem} {nm : List UInt8} {a b c : V} (ha : a.scalar = true) (hb : b.scalar = true) (hc : c.scalar = true) : WF tbl g 75 [.agg [.str nm, a, b, c]] M fun v M' => M' = M ∧ v = .str nm := by
  refine WF.intro rfl (Nat.le_of_ble_eq_true rfl) ?_
  repeat' first
    | refine WC.seq ?_
    | refine WC.region ?_
    | refine WC.drop (List.sublist_cons_self _ _) (WC.ret ?_)
    | refine WO.nil ?_
    | refine WO.cons ?_
    | refine W1.mv rfl ?_
    | refine W1.box rfl (by simp [V.cells, ha, hb, hc]; rfl) (fun b => ?_)
    | refine W1.fa rfl ?_
    | refine W1.ldS rfl .here rfl ?_
    | refine Exists.intro _ (And.intro (Res.tmp rfl Res.nil) ?_)
  exact ⟨rfl, rfl⟩
theorem f100 {g : Gz} {M : Mem} {s fv : V} {n : Nat} {row : Nat → List V} {R : Nat → Bool → Prop} (hs : SlcR g M s n 4 row) (hn : n ≤ 1000000000000)
    (hf : ∀ i, i < n → WV tbl g fv [.agg (row i)] M fun v M' => M' = M ∧ ∃ t, v = .bool t ∧ R i t) :
    WF tbl g 100 [s, fv] M fun v M' => M' = M ∧ ∃ k : Int, v = .int .i64 k ∧ (k < 0 → ∀ i, i < n → R i false) := by
  refine WF.intro rfl (Nat.le_of_ble_eq_true rfl) ?_
  refine WC.seq (WC.region (WO.cons (W1.mv rfl (WO.nil ?_))))
  refine WC.seq (WC.seq (WC.region (WO.cons (W1.mv rfl (WO.cons (W1.lenSlc rfl hs.1 (WO.cons (W1.mv rfl (WO.nil ?_)))))))))
  refine WC.block ?_
  refine WC.loopE (ι := Int) (fun i => (n - i).toNat) (fun i => [(0, s), (1, fv), (7, .int .i64 n), (8, .int .i64 i)]) (fun i M' => 0 ≤ i ∧ i ≤ n ∧ M' = M ∧ ∀ j : Nat, (j : Int) < i → R j false) ?_ 0 _ _
    (by repeat (first | exact subL.nil _ | refine subL.cons rfl ?_)) ⟨by omega, by omega, rfl, fun j h => by omega⟩
  rintro i M' ⟨h0, h1, rfl, hR⟩
  repeat' first
    | refine WC.seq ?_
    | refine WC.block ?_
    | refine WC.region ?_
    | refine WC.skip ?_
    | refine WC.exit ?_
    | refine WC.ret ?_
    | refine WC.cond rfl (fun hc => ?_) (fun hc => ?_)
    | refine WO.nil ?_
    | refine WO.cons ?_
    | refine W1.mv rfl ?_
    | refine W1.lss rfl rfl ?_
    | refine W1.add rfl rfl (by omega) (by omega) ?_
    | refine W1.iaRow rfl rfl hs (by omega) (by have := of_decide_eq_true ‹decide _ = true›; omega) (fun b o hrd => ?_)
    | refine W1.ldV rfl (hs.2.2 _ (by have := of_decide_eq_true ‹decide _ = true›; omega)) hrd ?_
    | (refine W1.callV rfl rfl ((hf i.toNat (by have := of_decide_eq_true ‹decide _ = true›; omega)).mono fun v M' => ?_); rintro ⟨rfl, t, rfl, ht⟩)
    | refine Exists.intro _ (And.intro (Res.tmp rfl Res.nil) ?_)
  · exact ⟨rfl, i, rfl, fun h => by omega⟩
  · have hlt := of_decide_eq_true ‹decide (i < (n : Int)) = true›
    refine ⟨i + 1, by omega, by repeat (first | exact subL.nil _ | refine subL.cons rfl ?_), by omega, by omega, rfl, fun j hj => ?_⟩
    by_cases hji : (j : Int) < i
    · exact hR j hji
    · have : j = i.toNat := by omega
      subst this
      exact hc ▸ ht
  · have hge := of_decide_eq_false hc
    exact ⟨rfl, -1, rfl, fun _ j hj => hR j (by omega)⟩
end Go.Ax
end
section
namespace Go.Ax
open Go.Ax.Ir
attribute [local irreducible] W1 WO WC WD WF WV
theorem f93 {g : Gz} {M : Mem} {s fv : V} {n : Nat} {row : Nat → List V} {R : Nat → Bool → Prop} (hs : SlcR g M s n 4 row) (hn : n ≤ 1000000000000)
    (hf : ∀ i, i < n → WV tbl g fv [.agg (row i)] M fun v M' => M' = M ∧ ∃ t, v = .bool t ∧ R i t) :
    WF tbl g 93 [s, fv] M fun v M' => M' = M ∧ ∃ t, v = .bool t ∧ (t = false → ∀ i, i < n → R i false) := by
  refine WF.intro rfl (Nat.le_of_ble_eq_true rfl) ?_
  repeat' first
    | refine WC.seq ?_
    | refine WC.region ?_
    | refine WC.ret ?_
    | refine WO.nil ?_
    | refine WO.cons ?_
    | refine W1.mv rfl ?_
    | refine W1.geq rfl rfl ?_
    | (refine W1.callV rfl rfl (WV.func ((f100 hs hn hf).mono fun v M' => ?_)); rintro ⟨rfl, k, rfl, hk⟩)
    | refine Exists.intro _ (And.intro (Res.tmp rfl Res.nil) ?_)
  exact ⟨rfl, _, rfl, fun h => hk (by simp at h; omega)⟩
def Named (vs : List V) : Prop := ∃ nm a b c, vs = [.str nm, a, b, c] ∧ a.scalar = true ∧ b.scalar = true ∧ c.scalar = true
theorem f94 {g : Gz} {M M1 M2 M3 : Mem} {s : V} {n : Nat} {row : Nat → List V} {vs : List V} {i : Int} {b1 b2 b3 : Nat} (hs : SlcR g M s n 4 row) (hrow : ∀ i, i < n → Named (row i)) (hvs : Named vs) (hi : 0 ≤ i) (hin : i < n)
    (h1 : At M b1 (Arr1 [.func 75 [] []] {}) M1) (h2 : At M b2 (Arr1 [s] {}) M2) (h3 : At M b3 (Arr1 [.int .i64 i] {}) M3) :
    WF tbl g 94 [.agg vs, .ptr b1 0, .ptr b2 0, .ptr b3 0] M fun v M' => M' = M ∧ ∃ t, v = .bool t := by
  obtain ⟨nm, a, b, c, rfl, ha, hb, hc⟩ := hvs
  obtain ⟨nm2, a2, b2', c2, hrw, ha2, hb2, hc2⟩ := hrow i.toNat (by omega)
  refine WF.intro rfl (Nat.le_of_ble_eq_true rfl) ?_
  repeat' first
    | refine WC.seq ?_
    | refine WC.region ?_
    | refine WC.draw ?_
    | refine WC.drop (List.sublist_cons_self _ _) (WC.ret ?_)
    | refine WO.nil ?_
    | refine WO.cons ?_
    | refine WD.nil ?_
    | refine WD.cons0 ?_
    | refine WD.consH ?_
    | refine WD.consR ?_
    | refine W1.mv rfl ?_
    | refine W1.box rfl (by simp [V.cells, ha, hb, hc]; rfl) (fun b => ?_)
    | refine W1.ldS rfl (.there h1) rfl (conjR (ReC.ldS rfl rfl (.there h1) rfl) (by simp) ?_)
    | refine W1.ldS rfl (.there h2) rfl (conjR (ReC.ldS rfl rfl (.there h2) rfl) (by simp) ?_)
    | refine W1.ldS rfl (.there h3) rfl (conjR (ReC.ldS rfl rfl (.there h3) rfl) (by simp) ?_)
    | refine W1.ldA rfl .here (by simp [V.cells]) (conjR (ReC.ldA rfl rfl .here (by simp [V.cells])) (by simp) ?_)
    | refine W1.iaRow rfl rfl hs.cons hi hin (fun b o hrd => ?_)
    | refine W1.ldV rfl (hs.2.2 i.toNat (by omega)) (by assumption) (conjR (ReC.ldV rfl rfl (hs.2.2 i.toNat (by omega)) (by assumption)) (by simp) ?_)
    | (refine W1.callV rfl rfl (WV.func ((f75 ha hb hc).mono fun v M' => ?_)); rintro ⟨rfl, rfl⟩)
    | (refine W1.callV rfl rfl (WV.func (WF.mono (by rw [hrw]; exact f75 ha2 hb2 hc2) fun v M' => ?_)); rintro ⟨rfl, rfl⟩)
    | refine W1.cmpS rfl rfl (by simp) rfl (fun t _ => ?_)
    | refine Exists.intro _ (And.intro (Res.tmp rfl Res.nil) ?_)
  all_goals exact ⟨rfl, _, rfl⟩
end Go.Ax
end
section
namespace Go.Ax
open Go.Ax.Ir
section
variable {ft : Nat → Option IFun} {g : Gz} {L : Env} {M : Mem} {K : Env → Mem → Prop}
theorem W1.slcRows {d n e : Nat} {x hi : Opd} {s : V} {row : Nat → List V} {k : IntKind} {a : Int} (hx : lkO L x = some s) (hh : lkO L hi = some (.int k a)) (hs : SlcR g M s n e row) (h0 : 0 ≤ a) (h1 : a ≤ n)
    (h : ∀ s', SlcR g M s' a.toNat e row → K ((d, s') :: L) M) : W1 ft g ⟨some d, .slc e x none (some hi) none, none⟩ L M K :=
  W1.slcTo hx hh hs.1 h0 h1 fun s' hs' => h s' ⟨hs', hs.2.1, fun i hi => hs.2.2 i (by omega)⟩
end
attribute [local irreducible] W1 WO WC WD WF WV
theorem f74 {g : Gz} {M : Mem} {s : V} {n : Nat} {row : Nat → List V} {i : Int} (hs : SlcR g M s n 4 row) (hsc : s.scalar = true) (hrow : ∀ i, i < n → Named (row i)) (hi : 0 ≤ i) (hin : i < n) (hn : n ≤ 1000000000000) :
    WF tbl g 74 [s, .int .i64 i, .func 75 [] []] M fun v M' => M' = M ∧ ∃ e, v = .int .i64 e := by
  obtain ⟨nm2, a2, b2', c2, hrw, ha2, hb2, hc2⟩ := hrow i.toNat (by omega)
  have hcell : s.cells = [s] := by cases s <;> first | rfl | cases hsc
  refine WF.intro rfl (Nat.le_of_ble_eq_true rfl) ?_
  refine WC.seq (WC.region (WO.cons (W1.box (v := s) rfl (by rw [hcell]; simp [hsc]) (fun b3 => WO.cons (W1.box rfl rfl (fun b4 => WO.cons (W1.box rfl rfl (fun b5 => WO.cons (W1.mv rfl (WO.nil ?_))))))))))
  rw [hcell]
  repeat' first
    | refine WC.seq ?_
    | refine WC.block ?_
    | refine WC.region ?_
    | refine WC.draw ?_
    | refine WC.skip ?_
    | refine WC.cond rfl (fun hc => ?_) (fun hc => ?_)
    | refine WC.drop (((List.sublist_cons_self _ _).trans (List.sublist_cons_self _ _)).trans (List.sublist_cons_self _ _)) (WC.ret ?_)
    | refine WO.nil ?_
    | refine WO.cons ?_
    | refine WD.nil ?_
    | refine WD.cons0 ?_
    | refine WD.consH ?_
    | refine WD.consR ?_
    | refine W1.mv rfl ?_
    | refine W1.not rfl ?_
    | refine W1.ldS rfl .here rfl (conjR (ReC.ldS rfl rfl .here rfl) (by simp) ?_)
    | refine W1.ldS rfl (.there .here) rfl (conjR (ReC.ldS rfl rfl (.there .here) rfl) (by simp) ?_)
    | refine W1.ldS rfl (.there (.there .here)) rfl (conjR (ReC.ldS rfl rfl (.there (.there .here)) rfl) (by simp) ?_)
    | refine W1.ldS rfl (.there .here) rfl ?_
    | refine W1.ldS rfl (.there (.there .here)) rfl ?_
    | refine W1.iaRow rfl rfl hs.cons.cons.cons hi hin (fun b o hrd => ?_)
    | refine W1.ldV rfl (hs.2.2 i.toNat (by omega)) (by assumption) (conjR (ReC.ldV rfl rfl (hs.2.2 i.toNat (by omega)) (by assumption)) (by simp) ?_)
    | refine W1.slcRows rfl rfl hs.cons.cons.cons hi (by omega) (fun s' hs' => ?_)
    | refine W1.mkfn rfl rfl ?_
    | (refine W1.callV rfl rfl (WV.func (WF.mono (by rw [hrw]; exact f75 ha2 hb2 hc2) fun v M' => ?_)); rintro ⟨rfl, rfl⟩)
    | (refine W1.callP rfl f92 ?_; rintro v ⟨t, rfl⟩)
    | (refine W1.callV rfl rfl (WV.func ((f93 hs' (by omega) (R := fun _ _ => True) (fun j hj => WV.func ((f94 hs.cons.cons.cons hrow (hrow j (by omega)) hi hin .here (.there (.there .here)) (.there .here)).mono fun v M' h => ⟨h.1, h.2.imp fun t ht => ⟨ht, trivial⟩⟩))).mono fun v M' => ?_)); rintro ⟨rfl, t, rfl, _⟩)
    | refine Exists.intro _ (And.intro (Res.tmp rfl Res.nil) ?_)
  all_goals exact ⟨rfl, _, rfl⟩
end Go.Ax
end
section
namespace Go.Ax
open Go.Ax.Ir
attribute [local irreducible] W1 WO WC WD WF WV
theorem f77 {g : Gz} {M : Mem} {nm : List UInt8} {a b c : V} (ha : a.scalar = true) (hb : b.scalar = true) (hc : c.scalar = true) : WF tbl g 77 [.agg [.str nm, a, b, c]] M fun v M' => M' = M ∧ v = .str nm := by
  refine WF.intro rfl (Nat.le_of_ble_eq_true rfl) ?_
  repeat' first
    | refine WC.seq ?_
    | refine WC.region ?_
    | refine WC.drop (List.sublist_cons_self _ _) (WC.ret ?_)
    | refine WO.nil ?_
    | refine WO.cons ?_
    | refine W1.mv rfl ?_
    | refine W1.box rfl (by simp [V.cells, ha, hb, hc]; rfl) (fun b => ?_)
    | refine W1.fa rfl ?_
    | refine W1.ldS rfl .here rfl ?_
    | refine Exists.intro _ (And.intro (Res.tmp rfl Res.nil) ?_)
  exact ⟨rfl, rfl⟩
theorem f101 {g : Gz} {M : Mem} {s fv : V} {n : Nat} {row : Nat → List V} {R : Nat → Bool → Prop} (hs : SlcR g M s n 4 row) (hn : n ≤ 1000000000000)
    (hf : ∀ i, i < n → WV tbl g fv [.agg (row i)] M fun v M' => M' = M ∧ ∃ t, v = .bool t ∧ R i t) :
    WF tbl g 101 [s, fv] M fun v M' => M' = M ∧ ∃ k : Int, v = .int .i64 k ∧ (k < 0 → ∀ i, i < n → R i false) := by
  refine WF.intro rfl (Nat.le_of_ble_eq_true rfl) ?_
  refine WC.seq (WC.region (WO.cons (W1.mv rfl (WO.nil ?_))))
  refine WC.seq (WC.seq (WC.region (WO.cons (W1.mv rfl (WO.cons (W1.lenSlc rfl hs.1 (WO.cons (W1.mv rfl (WO.nil ?_)))))))))
  refine WC.block ?_
  refine WC.loopE (ι := Int) (fun i => (n - i).toNat) (fun i => [(0, s), (1, fv), (7, .int .i64 n), (8, .int .i64 i)]) (fun i M' => 0 ≤ i ∧ i ≤ n ∧ M' = M ∧ ∀ j : Nat, (j : Int) < i → R j false) ?_ 0 _ _
    (by repeat (first | exact subL.nil _ | refine subL.cons rfl ?_)) ⟨by omega, by omega, rfl, fun j h => by omega⟩
  rintro i M' ⟨h0, h1, rfl, hR⟩
  repeat' first
    | refine WC.seq ?_
    | refine WC.block ?_
    | refine WC.region ?_
    | refine WC.skip ?_
    | refine WC.exit ?_
    | refine WC.ret ?_
    | refine WC.cond rfl (fun hc => ?_) (fun hc => ?_)
    | refine WO.nil ?_
    | refine WO.cons ?_
    | refine W1.mv rfl ?_
    | refine W1.lss rfl rfl ?_
    | refine W1.add rfl rfl (by omega) (by omega) ?_
    | refine W1.iaRow rfl rfl hs (by omega) (by have := of_decide_eq_true ‹decide _ = true›; omega) (fun b o hrd => ?_)
    | refine W1.ldV rfl (hs.2.2 _ (by have := of_decide_eq_true ‹decide _ = true›; omega)) hrd ?_
    | (refine W1.callV rfl rfl ((hf i.toNat (by have := of_decide_eq_true ‹decide _ = true›; omega)).mono fun v M' => ?_); rintro ⟨rfl, t, rfl, ht⟩)
    | refine Exists.intro _ (And.intro (Res.tmp rfl Res.nil) ?_)
  · exact ⟨rfl, i, rfl, fun h => by omega⟩
  · have hlt := of_decide_eq_true ‹decide (i < (n : Int)) = true›
    refine ⟨i + 1, by omega, by repeat (first | exact subL.nil _ | refine subL.cons rfl ?_), by omega, by omega, rfl, fun j hj => ?_⟩
    by_cases hji : (j : Int) < i
    · exact hR j hji
    · have : j = i.toNat := by omega
      subst this
      exact hc ▸ ht
  · have hge := of_decide_eq_false hc
    exact ⟨rfl, -1, rfl, fun _ j hj => hR j (by omega)⟩
theorem f95 {g : Gz} {M : Mem} {s fv : V} {n : Nat} {row : Nat → List V} {R : Nat → Bool → Prop} (hs : SlcR g M s n 4 row) (hn : n ≤ 1000000000000)
    (hf : ∀ i, i < n → WV tbl g fv [.agg (row i)] M fun v M' => M' = M ∧ ∃ t, v = .bool t ∧ R i t) :
    WF tbl g 95 [s, fv] M fun v M' => M' = M ∧ ∃ t, v = .bool t ∧ (t = false → ∀ i, i < n → R i false) := by
  refine WF.intro rfl (Nat.le_of_ble_eq_true rfl) ?_
  repeat' first
    | refine WC.seq ?_
    | refine WC.region ?_
    | refine WC.ret ?_
    | refine WO.nil ?_
    | refine WO.cons ?_
    | refine W1.mv rfl ?_
    | refine W1.geq rfl rfl ?_
    | (refine W1.callV rfl rfl (WV.func ((f101 hs hn hf).mono fun v M' => ?_)); rintro ⟨rfl, k, rfl, hk⟩)
    | refine Exists.intro _ (And.intro (Res.tmp rfl Res.nil) ?_)
  exact ⟨rfl, _, rfl, fun h => hk (by simp at h; omega)⟩
theorem f96 {g : Gz} {M M1 M2 M3 : Mem} {s : V} {n : Nat} {row : Nat → List V} {vs : List V} {i : Int} {b1 b2 b3 : Nat} (hs : SlcR g M s n 4 row) (hrow : ∀ i, i < n → Named (row i)) (hvs : Named vs) (hi : 0 ≤ i) (hin : i < n)
    (h1 : At M b1 (Arr1 [.func 77 [] []] {}) M1) (h2 : At M b2 (Arr1 [s] {}) M2) (h3 : At M b3 (Arr1 [.int .i64 i] {}) M3) :
    WF tbl g 96 [.agg vs, .ptr b1 0, .ptr b2 0, .ptr b3 0] M fun v M' => M' = M ∧ ∃ t, v = .bool t := by
  obtain ⟨nm, a, b, c, rfl, ha, hb, hc⟩ := hvs
  obtain ⟨nm2, a2, b2', c2, hrw, ha2, hb2, hc2⟩ := hrow i.toNat (by omega)
  refine WF.intro rfl (Nat.le_of_ble_eq_true rfl) ?_
  repeat' first
    | refine WC.seq ?_
    | refine WC.region ?_
    | refine WC.draw ?_
    | refine WC.drop (List.sublist_cons_self _ _) (WC.ret ?_)
    | refine WO.nil ?_
    | refine WO.cons ?_
    | refine WD.nil ?_
    | refine WD.cons0 ?_
    | refine WD.consH ?_
    | refine WD.consR ?_
    | refine W1.mv rfl ?_
    | refine W1.box rfl (by simp [V.cells, ha, hb, hc]; rfl) (fun b => ?_)
    | refine W1.ldS rfl (.there h1) rfl (conjR (ReC.ldS rfl rfl (.there h1) rfl) (by simp) ?_)
    | refine W1.ldS rfl (.there h2) rfl (conjR (ReC.ldS rfl rfl (.there h2) rfl) (by simp) ?_)
    | refine W1.ldS rfl (.there h3) rfl (conjR (ReC.ldS rfl rfl (.there h3) rfl) (by simp) ?_)
    | refine W1.ldA rfl .here (by simp [V.cells]) (conjR (ReC.ldA rfl rfl .here (by simp [V.cells])) (by simp) ?_)
    | refine W1.iaRow rfl rfl hs.cons hi hin (fun b o hrd => ?_)
    | refine W1.ldV rfl (hs.2.2 i.toNat (by omega)) (by assumption) (conjR (ReC.ldV rfl rfl (hs.2.2 i.toNat (by omega)) (by assumption)) (by simp) ?_)
    | (refine W1.callV rfl rfl (WV.func ((f77 ha hb hc).mono fun v M' => ?_)); rintro ⟨rfl, rfl⟩)
    | (refine W1.callV rfl rfl (WV.func (WF.mono (by rw [hrw]; exact f77 ha2 hb2 hc2) fun v M' => ?_)); rintro ⟨rfl, rfl⟩)
    | refine W1.cmpS rfl rfl (by simp) rfl (fun t _ => ?_)
    | refine Exists.intro _ (And.intro (Res.tmp rfl Res.nil) ?_)
  all_goals exact ⟨rfl, _, rfl⟩
theorem f76 {g : Gz} {M : Mem} {s : V} {n : Nat} {row : Nat → List V} {i : Int} (hs : SlcR g M s n 4 row) (hsc : s.scalar = true) (hrow : ∀ i, i < n → Named (row i)) (hi : 0 ≤ i) (hin : i < n) (hn : n ≤ 1000000000000) :
    WF tbl g 76 [s, .int .i64 i, .func 77 [] []] M fun v M' => M' = M ∧ ∃ e, v = .int .i64 e := by
  obtain ⟨nm2, a2, b2', c2, hrw, ha2, hb2, hc2⟩ := hrow i.toNat (by omega)
  have hcell : s.cells = [s] := by cases s <;> first | rfl | cases hsc
  refine WF.intro rfl (Nat.le_of_ble_eq_true rfl) ?_
  refine WC.seq (WC.region (WO.cons (W1.box (v := s) rfl (by rw [hcell]; simp [hsc]) (fun b3 => WO.cons (W1.box rfl rfl (fun b4 => WO.cons (W1.box rfl rfl (fun b5 => WO.cons (W1.mv rfl (WO.nil ?_))))))))))
  rw [hcell]
  repeat' first
    | refine WC.seq ?_
    | refine WC.block ?_
    | refine WC.region ?_
    | refine WC.draw ?_
    | refine WC.skip ?_
    | refine WC.cond rfl (fun hc => ?_) (fun hc => ?_)
    | refine WC.drop (((List.sublist_cons_self _ _).trans (List.sublist_cons_self _ _)).trans (List.sublist_cons_self _ _)) (WC.ret ?_)
    | refine WO.nil ?_
    | refine WO.cons ?_
    | refine WD.nil ?_
    | refine WD.cons0 ?_
    | refine WD.consH ?_
    | refine WD.consR ?_
    | refine W1.mv rfl ?_
    | refine W1.not rfl ?_
    | refine W1.ldS rfl .here rfl (conjR (ReC.ldS rfl rfl .here rfl) (by simp) ?_)
    | refine W1.ldS rfl (.there .here) rfl (conjR (ReC.ldS rfl rfl (.there .here) rfl) (by simp) ?_)
    | refine W1.ldS rfl (.there (.there .here)) rfl (conjR (ReC.ldS rfl rfl (.there (.there .here)) rfl) (by simp) ?_)
    | refine W1.ldS rfl (.there .here) rfl ?_
    | refine W1.ldS rfl (.there (.there .here)) rfl ?_
    | refine W1.iaRow rfl rfl hs.cons.cons.cons hi hin (fun b o hrd => ?_)
    | refine W1.ldV rfl (hs.2.2 i.toNat (by omega)) (by assumption) (conjR (ReC.ldV rfl rfl (hs.2.2 i.toNat (by omega)) (by assumption)) (by simp) ?_)
    | refine W1.slcRows rfl rfl hs.cons.cons.cons hi (by omega) (fun s' hs' => ?_)
    | refine W1.mkfn rfl rfl ?_
    | (refine W1.callV rfl rfl (WV.func (WF.mono (by rw [hrw]; exact f77 ha2 hb2 hc2) fun v M' => ?_)); rintro ⟨rfl, rfl⟩)
    | (refine W1.callP rfl f92 ?_; rintro v ⟨t, rfl⟩)
    | (refine W1.callV rfl rfl (WV.func ((f95 hs' (by omega) (R := fun _ _ => True) (fun j hj => WV.func ((f96 hs.cons.cons.cons hrow (hrow j (by omega)) hi hin .here (.there (.there .here)) (.there .here)).mono fun v M' h => ⟨h.1, h.2.imp fun t ht => ⟨ht, trivial⟩⟩))).mono fun v M' => ?_)); rintro ⟨rfl, t, rfl, _⟩)
    | refine Exists.intro _ (And.intro (Res.tmp rfl Res.nil) ?_)
  all_goals exact ⟨rfl, _, rfl⟩
end Go.Ax
end
section
namespace Go.Ax
open Go.Ax.Ir
structure TrD where
  sv : V
  sc : V
  sa : V
  nv : Nat
  nc : Nat
  na : Nat
  van : Nat → List V
  crate : Nat → List V
  pair : Nat → List V
  nl : Nat → Nat
  leg : Nat → Nat → List V
  stops : Int
  handle : Int
def TrD.cells (t : TrD) : List V := [t.sv, .int .i64 t.stops, .int .i64 t.handle, t.sc, t.sa]
structure TrOk (g : Gz) (t : TrD) : Prop where
  hv : SlcR g [] t.sv t.nv 4 t.van
  hc : SlcR g [] t.sc t.nc 4 t.crate
  ha : SlcR g [] t.sa t.na 2 t.pair
  nv : t.nv ≤ 1000000000
  nc : t.nc ≤ 1000000000
  na : t.na ≤ 1000000000
  sv : t.sv.scalar = true
  sc : t.sc.scalar = true
  sa : t.sa.scalar = true
  vrow : ∀ i, i < t.nv → ∃ nm a b c, t.van i = [.str nm, .int .i64 a, .int .i64 b, c] ∧ c.scalar = true ∧ SlcR g [] c (t.nl i) 2 (t.leg i) ∧ t.nl i ≤ 1000000000
  lrow : ∀ i j, i < t.nv → j < t.nl i → ∃ a b, t.leg i j = [.int .i64 a, .int .i64 b]
  crow : ∀ i, i < t.nc → ∃ nm a b c, t.crate i = [.str nm, .int .i64 a, .int .i64 b, .int .i64 c]
  arow : ∀ i, i < t.na → ∃ a b, t.pair i = [.int .i64 a, .int .i64 b]
theorem TrOk.lessG {g g' : Gz} (hg : g.le g') {t : TrD} (h : TrOk g t) : TrOk g' t :=
  ⟨h.hv.lessG hg, h.hc.lessG hg, h.ha.lessG hg, h.nv, h.nc, h.na, h.sv, h.sc, h.sa, fun i hi => by
    obtain ⟨nm, a, b, c, h1, h2, h3, h4⟩ := h.vrow i hi
    exact ⟨nm, a, b, c, h1, h2, h3.lessG hg, h4⟩, h.lrow, h.crow, h.arow⟩
attribute [local irreducible] W1 WO WC WD WF WV
theorem f43 {g : Gz} {M : Mem} {t : TrD} {bT : Nat} {km : V} {i : Int} (ok : TrOk g t) (hT : g bT = some (.arr (t.cells ++ [km]) {})) (hi : 0 ≤ i) (hin : i < t.na) :
    WF tbl g 43 [.ptr bT 0, .int .i64 i] M fun v M' => M' = M ∧ ∃ e, v = .int .i64 e := by
  obtain ⟨x, y, hrow⟩ := ok.arow i.toNat (by omega)
  have hnc := ok.nc
  have l3 : rdAgg g false bT 3 1 = some t.sc := by simp [rdAgg, hT, TrD.cells]
  have l4 : rdAgg g false bT 4 1 = some t.sa := by simp [rdAgg, hT, TrD.cells]
  refine WF.intro rfl (Nat.le_of_ble_eq_true rfl) ?_
  repeat' first
    | refine WC.seq ?_
    | refine WC.block ?_
    | refine WC.region ?_
    | refine WC.draw ?_
    | refine WC.skip ?_
    | refine WC.cond rfl (fun hc => ?_) (fun hc => ?_)
    | refine WC.drop ((List.sublist_cons_self _ _).trans (List.sublist_cons_self _ _)) (WC.ret ?_)
    | refine WO.nil ?_
    | refine WO.cons ?_
    | refine WD.nil ?_
    | refine WD.cons0 ?_
    | refine WD.consH ?_
    | refine WD.consR ?_
    | refine W1.mv rfl ?_
    | refine W1.nilck rfl ?_
    | refine W1.fa rfl ?_
    | refine W1.ldG rfl l4 ?_
    | refine W1.ldG rfl l3 (conjR (ReC.ldG rfl rfl l3) (by simp) ?_)
    | refine W1.iaRow rfl rfl ok.ha.up hi hin (fun b o hrd => ?_)
    | refine W1.ldV (vs := [.int .i64 x, .int .i64 y]) rfl rfl (hrow ▸ hrd) ?_
    | refine W1.alloc rfl (fun b => ?_)
    | refine W1.st rfl rfl rfl rfl .here (by decide) ?_
    | refine W1.lenSlc rfl ok.hc.up.1 ?_
    | refine W1.sub rfl rfl (by omega) (by omega) ?_
    | refine W1.geq rfl rfl ?_
    | refine W1.ldS rfl .here rfl (conjR (ReC.ldS rfl rfl .here rfl) (by simp) ?_)
    | refine W1.ldS rfl (.there .here) rfl ?_
    | refine W1.bldS rfl rfl rfl (fun bs => ?_)
    | (refine W1.callV rfl rfl (WV.func ((f40 (num := fun j => if j = 0 then x else y) (Slc.row .here (by simp) (fun j hj k hk => ?_)) (by omega)).mono fun v M' => ?_)); rotate_left; rintro ⟨rfl, t', rfl, ht⟩)
    | refine Exists.intro _ (And.intro (Res.tmp rfl Res.nil) ?_)
  all_goals first
    | exact ⟨rfl, _, rfl⟩
    | (have : k = 0 := by omega
       subst this
       rcases j with _ | _ | j
       · rfl
       · rfl
       · omega)
end Go.Ax
end
section
namespace Go.Ax
open Go.Ax.Ir
attribute [local irreducible] W1 WO WC WD WF WV
theorem ReC.skip_u {g : Gz} {L : Env} {M : Mem} {d : Option Nat} {o : IOp} {j : Nat} {want : Bool} (hc : lk L j = some .undef) : ReC g ⟨d, o, some (j, want)⟩ L M := by
  intro τ hp hl hs
  have e := hl j _ hc
  have hw : wanted (some (j, want)) τ = false := by
    simp only [ev] at e
    simp only [wanted]
    cases hr : Rep.get τ j with
    | none => rfl
    | some x => rw [hr] at e; simp only [Option.getD_some] at e; subst e; rfl
  simp [reOk, hw]
theorem f40one {g : Gz} {M M1 : Mem} {b : Nat} {lo hi x : Int} (h : At M b (Arr1 [.int .i64 x] {}) M1) :
    WF tbl g 40 [.int .i64 lo, .int .i64 hi, .slice b 0 1 (some 1) 1] M fun v M' => M' = M ∧ ∃ t, v = .bool t ∧ (t = false → lo ≤ x ∧ x ≤ hi) :=
  (f40 (num := fun _ => x) (Slc.row h (by simp) (fun j hj k hk => by
    obtain rfl : j = 0 := by omega
    obtain rfl : k = 0 := by omega
    rfl)) (by omega)).mono fun v M' ⟨h1, t, h2, h3⟩ => ⟨h1, t, h2, fun ht => h3 ht 0 (by omega)⟩
theorem f42 {g : Gz} {M : Mem} {t : TrD} {bT : Nat} {km : V} {i : Int} (ok : TrOk g t) (hT : g bT = some (.arr (t.cells ++ [km]) {})) (hi : 0 ≤ i) (hin : i < t.nc) (hst : 0 ≤ t.stops ∧ t.stops ≤ 1000) :
    WF tbl g 42 [.ptr bT 0, .int .i64 i] M fun v M' => M' = M ∧ ∃ e, v = .int .i64 e ∧ (e = 0 → ∃ nm a b c, t.crate i.toNat = [.str nm, .int .i64 a, .int .i64 b, .int .i64 c] ∧ 0 ≤ b ∧ b < t.stops) := by
  obtain ⟨nm, x, y, z, hrow⟩ := ok.crow i.toNat (by omega)
  have hnc := ok.nc
  have l3 : rdAgg g false bT 3 1 = some t.sc := by simp [rdAgg, hT, TrD.cells]
  have l1 : rdAgg g false bT 1 1 = some (.int .i64 t.stops) := by simp [rdAgg, hT, TrD.cells]
  have hnamed : ∀ i, i < t.nc → Named (t.crate i) := fun i hi => by
    obtain ⟨nm, a, b, c, h⟩ := ok.crow i hi
    exact ⟨nm, _, _, _, h, rfl, rfl, rfl⟩
  refine WF.intro rfl (Nat.le_of_ble_eq_true rfl) ?_
  repeat' first
    | refine WC.seq ?_
    | refine WC.region ?_
    | refine WC.draw ?_
    | refine WC.skip ?_
    | refine WC.cond_t rfl (by first | assumption | rfl) ?_
    | refine WC.cond_f rfl (by first | assumption | rfl) ?_
    | refine WC.cond rfl (fun hc => ?_) (fun hc => ?_)
    | refine WO.nil ?_
    | refine WO.cons ?_
    | refine WD.nil ?_
    | refine WD.cons0 ?_
    | refine WD.consH ?_
    | refine WD.consR ?_
    | refine W1.mv rfl ?_
    | refine W1.nilck rfl ?_
    | refine W1.fa rfl ?_
    | refine W1.ldG rfl l3 ?_
    | refine W1.iaRow rfl rfl ok.hc.up hi hin (fun bb oo hrd => ?_)
    | refine W1.ldV (vs := [.str nm, .int .i64 x, .int .i64 y, .int .i64 z]) rfl rfl (hrow ▸ hrd) ?_
    | refine W1.alloc rfl (fun bb => ?_)
    | refine W1.st rfl rfl rfl rfl .here (by decide) ?_
    | (refine W1.callV rfl rfl (WV.func ((f76 ok.hc.up ok.sc hnamed hi hin (by omega)).mono fun v M' => ?_)); rintro ⟨rfl, e, rfl⟩)
    | refine W1.eql rfl rfl ?_
    | refine W1.sub rfl rfl (by omega) (by omega) ?_
    | refine W1.guard_u rfl ?_
    | refine W1.guard_y rfl (by first | assumption | rfl) ?_
    | refine W1.guard_n rfl (by first | assumption | rfl) ?_
    | refine W1.guard rfl (fun hc => ?_) (fun hc => ?_)
    | refine conjR (ReC.skip rfl (by first | assumption | rfl)) (by simp) ?_
    | refine conjR (ReC.skip_u rfl) (by simp) ?_
    | refine W1.pick_t rfl (by first | assumption | rfl) rfl ?_
    | refine W1.pick_f rfl (by first | assumption | rfl) rfl ?_
    | refine W1.ldG rfl l1 (conjR (ReC.ldG rfl rfl l1) (by simp) ?_)
    | refine W1.ldS rfl .here rfl (conjR (ReC.ldS rfl rfl .here rfl) (by simp) ?_)
    | refine W1.ldS rfl (.there .here) rfl (conjR (ReC.ldS rfl rfl (.there .here) rfl) (by simp) ?_)
    | refine W1.ldS rfl (.there (.there .here)) rfl (conjR (ReC.ldS rfl rfl (.there (.there .here)) rfl) (by simp) ?_)
    | refine W1.bldS rfl rfl rfl (fun bs => ?_)
    | (refine W1.callV rfl rfl (WV.func ((f40one .here).mono fun v M' => ?_)); rintro ⟨rfl, tt, rfl, ht⟩)
    | refine WC.drop (M' := M) (by repeat (first | exact List.Sublist.refl _ | apply List.Sublist.cons)) (WC.ret ?_)
    | refine Exists.intro _ (And.intro (Res.tmp rfl Res.nil) ?_)
  all_goals first
    | exact ⟨rfl, _, rfl, fun h => by omega⟩
    | exact ⟨rfl, _, rfl, fun h => by have h2 := of_decide_eq_false ‹decide (e = 0) = false›; exact absurd h h2⟩
    | exact ⟨rfl, _, rfl, fun h => ⟨nm, x, y, z, hrow, by have h2 := ‹_ = false → 0 ≤ y ∧ y ≤ t.stops - 1› ‹_›; omega⟩⟩
    | skip
end Go.Ax
end
section
namespace Go.Ax
open Go.Ax.Ir
attribute [local irreducible] W1 WO WC WD WF WV
theorem f40two {g : Gz} {M M1 : Mem} {b : Nat} {lo hi x y : Int} (h : At M b (Arr1 [.int .i64 x, .int .i64 y] {}) M1) :
    WF tbl g 40 [.int .i64 lo, .int .i64 hi, .slice b 0 2 (some 2) 1] M fun v M' => M' = M ∧ ∃ t, v = .bool t ∧ (t = false → (lo ≤ x ∧ x ≤ hi) ∧ lo ≤ y ∧ y ≤ hi) :=
  (f40 (num := fun j => if j = 0 then x else y) (Slc.row h (by simp) (fun j hj k hk => by
    obtain rfl : k = 0 := by omega
    rcases j with _ | _ | j
    · rfl
    · rfl
    · omega)) (by omega)).mono fun v M' ⟨h1, t, h2, h3⟩ => ⟨h1, t, h2, fun ht => ⟨h3 ht 0 (by omega), h3 ht 1 (by omega)⟩⟩
theorem f41 {g : Gz} {M : Mem} {t : TrD} {bT : Nat} {km : V} {i : Int} (ok : TrOk g t) (hT : g bT = some (.arr (t.cells ++ [km]) {})) (hi : 0 ≤ i) (hin : i < t.nv) :
    WF tbl g 41 [.ptr bT 0, .int .i64 i] M fun v M' => M' = M ∧ ∃ e, v = .int .i64 e ∧ (e = 0 → (t.nl i.toNat : Int) = t.stops ∧ ∀ j, j < t.nl i.toNat → ∃ a b, t.leg i.toNat j = [.int .i64 a, .int .i64 b] ∧ 0 ≤ a ∧ a ≤ b ∧ b ≤ 600) := by
  obtain ⟨nm, x, y, lv, hrow, hlv, hls, hln⟩ := ok.vrow i.toNat (by omega)
  have l0 : rdAgg g false bT 0 1 = some t.sv := by simp [rdAgg, hT, TrD.cells]
  have l1 : rdAgg g false bT 1 1 = some (.int .i64 t.stops) := by simp [rdAgg, hT, TrD.cells]
  have hnv := ok.nv
  have hsc4 : (V.agg [.str nm, .int .i64 x, .int .i64 y, lv]).cells.all V.scalar = true := by
    simp only [V.cells, List.all_cons, List.all_nil, hlv, Bool.and_true]; rfl
  have hnamed : ∀ i, i < t.nv → Named (t.van i) := fun i hi => by
    obtain ⟨nm, a, b, c, h, hc, _⟩ := ok.vrow i hi
    exact ⟨nm, _, _, _, h, rfl, rfl, hc⟩
  refine WF.intro rfl (Nat.le_of_ble_eq_true rfl) ?_
  repeat' first
    | refine WC.seq ?_
    | refine WC.block ?_
    | refine WC.region ?_
    | refine WC.draw ?_
    | refine WC.skip ?_
    | refine WC.cond_t rfl (by first | assumption | rfl) ?_
    | refine WC.cond rfl (fun hc => ?_) (fun hc => ?_)
    | refine WO.nil ?_
    | refine WO.cons ?_
    | refine WD.nil ?_
    | refine WD.cons0 ?_
    | refine WD.consR ?_
    | refine W1.mv rfl ?_
    | refine W1.nilck rfl ?_
    | refine W1.fa rfl ?_
    | refine W1.ldG rfl l0 ?_
    | refine W1.ldG rfl l1 (conjR (ReC.ldG rfl rfl l1) (by simp) ?_)
    | refine W1.iaRow rfl rfl ok.hv.up hi hin (fun bb oo hrd => ?_)
    | refine W1.ldV (vs := [.str nm, .int .i64 x, .int .i64 y, lv]) rfl rfl (hrow ▸ hrd) ?_
    | refine W1.alloc rfl (fun bb => ?_)
    | refine W1.st (v := .agg [.str nm, .int .i64 x, .int .i64 y, lv]) rfl rfl rfl hsc4 .here (by decide) ?_
    | (refine W1.callV rfl rfl (WV.func ((f74 ok.hv.up ok.sv hnamed hi hin (by omega)).mono fun v M' => ?_)); rintro ⟨rfl, e, rfl⟩)
    | refine W1.neq rfl rfl ?_
    | refine W1.guard_y rfl (by first | assumption | rfl) ?_
    | refine W1.guard_n rfl (by first | assumption | rfl) ?_
    | refine W1.guard rfl (fun hc => ?_) (fun hc => ?_)
    | refine W1.pick_t rfl (by first | assumption | rfl) rfl ?_
    | refine W1.pick_f rfl (by first | assumption | rfl) rfl ?_
    | refine W1.lenSlc rfl hls.up.1 ?_
    | refine W1.ldS rfl (.there (.there .here)) rfl (conjR (ReC.ldS rfl rfl (.there (.there .here)) rfl) (by simp) ?_)
    | refine W1.ldS rfl .here rfl ?_
    | refine W1.ldS rfl (.there .here) rfl ?_
    | refine W1.ldS rfl (.there (.there .here)) rfl ?_
    | refine W1.bldS rfl rfl rfl (fun bs => ?_)
    | (refine W1.callV rfl rfl (WV.func ((f40one .here).mono fun v M' => ?_)); rintro ⟨rfl, tt, rfl, ht⟩)
    | refine WC.drop (M' := M) (by repeat (first | exact List.Sublist.refl _ | apply List.Sublist.cons)) (WC.ret ?_)
    | refine Exists.intro _ (And.intro (Res.tmp rfl Res.nil) ?_)
  · exact ⟨rfl, _, rfl, fun h => by simp [h] at hc⟩
  · exact ⟨rfl, _, rfl, fun h => by omega⟩
  · exact ⟨rfl, _, rfl, fun h => by omega⟩
  · have hnl : (t.nl i.toNat : Int) = t.stops := by simpa using hc
    refine WC.loopE (ι := Int) (fun j => (t.nl i.toNat - j).toNat) (fun j => [(50, lv), (51, .int .i64 (t.nl i.toNat)), (52, .int .i64 j)])
      (fun j M' => 0 ≤ j ∧ j ≤ t.nl i.toNat ∧ M.Sublist M' ∧ ∀ q : Nat, (q : Int) < j → ∃ a b, t.leg i.toNat q = [.int .i64 a, .int .i64 b] ∧ 0 ≤ a ∧ a ≤ b ∧ b ≤ 600) ?_ 0 _ _
      (by repeat (first | exact subL.nil _ | refine subL.cons rfl ?_)) ⟨by omega, by omega, by repeat (first | exact List.Sublist.refl _ | apply List.Sublist.cons), fun j h => by omega⟩
    rintro j M' ⟨h0, h1, hsub, hR⟩
    refine WC.seq (WC.region (WO.cons (W1.lss rfl rfl (WO.nil ?_))))
    refine WC.seq (WC.cond rfl (fun hlt => WC.skip ?_) (fun hge => WC.exit ?_))
    · have hlt' := of_decide_eq_true hlt
      obtain ⟨la, lb, hleg⟩ := ok.lrow i.toNat j.toNat (by omega) (by omega)
      repeat' first
        | refine WC.seq ?_
        | refine WC.block ?_
        | refine WC.region ?_
        | refine WC.skip ?_
        | refine WC.cond rfl (fun hc => ?_) (fun hc => ?_)
        | refine WO.nil ?_
        | refine WO.cons ?_
        | refine W1.mv rfl ?_
        | refine W1.fa rfl ?_
        | refine W1.iaRow rfl rfl hls.up h0 hlt' (fun bb oo hrd => ?_)
        | refine W1.ldV (vs := [.int .i64 la, .int .i64 lb]) rfl rfl (hleg ▸ hrd) ?_
        | refine W1.alloc rfl (fun bb => ?_)
        | refine W1.st rfl rfl rfl rfl .here (by decide) ?_
        | refine W1.ldS rfl .here rfl ?_
        | refine W1.ldS rfl (.there .here) rfl ?_
        | refine W1.bldS rfl rfl rfl (fun bs => ?_)
        | refine W1.gtr rfl rfl ?_
        | refine W1.add rfl rfl (by omega) (by omega) ?_
        | (refine W1.callV rfl rfl (WV.func ((f40two .here).mono fun v M' => ?_)); rintro ⟨rfl, tt, rfl, ht⟩)
        | refine WC.drop (M' := M) (by repeat (first | exact hsub | apply List.Sublist.cons)) (WC.ret ?_)
        | refine Exists.intro _ (And.intro (Res.tmp rfl Res.nil) ?_)
      · exact ⟨rfl, _, rfl, fun h => by omega⟩
      · exact ⟨rfl, _, rfl, fun h => by omega⟩
      · obtain ⟨k1, k2⟩ := ht ‹_›
        have k3 := of_decide_eq_false hc
        refine ⟨j + 1, by omega, by repeat (first | exact subL.nil _ | refine subL.cons rfl ?_), by omega, by omega, by repeat (first | exact hsub | apply List.Sublist.cons), fun q hq => ?_⟩
        by_cases hqj : (q : Int) < j
        · exact hR q hqj
        · have : q = j.toNat := by omega
          subst this
          exact ⟨la, lb, hleg, by omega, by omega, by omega⟩
    · have hge' := of_decide_eq_false hge
      refine WC.seq (WC.region (WO.cons (W1.mv rfl (WO.nil ?_))))
      refine WC.drop hsub (WC.ret ⟨_, Res.tmp rfl Res.nil, rfl, _, rfl, fun _ => ⟨hnl, fun q hq => hR q (by omega)⟩⟩)
  · exact ⟨rfl, _, rfl, fun h => by omega⟩
end Go.Ax
end
section
namespace Go.Ax
open Go.Ax.Ir
theorem WC.unroll {ft : FT FnR} {g : Gz} {cur : Option Nat} {b : ICode} {L : Env} {M : Mem} {K : X → Env → Mem → Prop} (h : WC ft g cur b L M (thenC (fun L' M' => WC ft g cur (.loop b) L' M' K) K)) : WC ft g cur (.loop b) L M K := by
  intro τ hp hl hs
  obtain ⟨n1, x1, τ1, h1, L1, M1, e1, l1, s1, k1, hK⟩ := h τ hp hl hs
  cases x1 with
  | normal =>
    obtain ⟨n2, x2, τ2, h2, L2, M2, e2, l2, s2, k2, hK2⟩ := hK τ1 h1 l1 s1
    refine ⟨max n1 (n2 + 1), x2, τ2, h2, L2, M2, ?_, l2, s2, k1.trans k2, hK2⟩
    have e1' := codeF_le (recN_le ft (Nat.le_max_left n1 (n2 + 1))) e1
    have e2' : (recN ft (n2 + 1)).code cur (.loop b) τ1 h1 = some (x2, τ2, h2) := e2
    simp only [codeF, e1']
    exact (recN_le (S := FnR) ft (Nat.le_max_right n1 (n2 + 1))).code e2'
  | exit id => exact ⟨n1, .exit id, τ1, h1, L1, M1, by simp only [codeF, e1], l1, s1, k1, hK⟩
  | ret => exact ⟨n1, .ret, τ1, h1, L1, M1, by simp only [codeF, e1], l1, s1, k1, hK⟩
attribute [local irreducible] W1 WO WC WD WF WV
structure TrVal (t : TrD) : Prop where
  stops : 1 ≤ t.stops ∧ t.stops ≤ 3
  handle : 0 ≤ t.handle ∧ t.handle ≤ 60
  nv : 1 ≤ t.nv ∧ t.nv ≤ 3
  nc : t.nc ≤ 6
  na : t.na ≤ 4
  van : ∀ i, i < t.nv → (t.nl i : Int) = t.stops ∧ ∀ j, j < t.nl i → ∃ a b, t.leg i j = [.int .i64 a, .int .i64 b] ∧ 0 ≤ a ∧ a ≤ b ∧ b ≤ 600
  crate : ∀ i, i < t.nc → ∃ nm a b c, t.crate i = [.str nm, .int .i64 a, .int .i64 b, .int .i64 c] ∧ 0 ≤ b ∧ b < t.stops
  pair : ∀ i, i < t.na → ∃ a b, t.pair i = [.int .i64 a, .int .i64 b] ∧ 0 ≤ a ∧ a < b ∧ b < t.nc
theorem f43' {g : Gz} {M : Mem} {t : TrD} {bT : Nat} {km : V} {i : Int} (ok : TrOk g t) (hT : g bT = some (.arr (t.cells ++ [km]) {})) (hi : 0 ≤ i) (hin : i < t.na) :
    WF tbl g 43 [.ptr bT 0, .int .i64 i] M fun v M' => M' = M ∧ ∃ e, v = .int .i64 e ∧ (e = 0 → ∃ a b, t.pair i.toNat = [.int .i64 a, .int .i64 b] ∧ 0 ≤ a ∧ a < b ∧ b < t.nc) := by
  obtain ⟨x, y, hrow⟩ := ok.arow i.toNat (by omega)
  have hnc := ok.nc
  have l3 : rdAgg g false bT 3 1 = some t.sc := by simp [rdAgg, hT, TrD.cells]
  have l4 : rdAgg g false bT 4 1 = some t.sa := by simp [rdAgg, hT, TrD.cells]
  refine WF.intro rfl (Nat.le_of_ble_eq_true rfl) ?_
  repeat' first
    | refine W1.ldG rfl l4 ?_
    | refine W1.ldG rfl l3 (conjR (ReC.ldG rfl rfl l3) (by simp) ?_)
    | refine W1.iaRow rfl rfl ok.ha.up hi hin (fun b o hrd => ?_)
    | refine W1.ldV (vs := [.int .i64 x, .int .i64 y]) rfl rfl (hrow ▸ hrd) ?_
    | refine W1.lenSlc rfl ok.hc.up.1 ?_
    | (refine W1.callV rfl rfl (WV.func ((f40two .here).mono fun v M' => ?_)); rintro ⟨rfl, tt, rfl, ht⟩)
    | refine WC.drop (M' := M) (by repeat (first | exact List.Sublist.refl _ | apply List.Sublist.cons)) (WC.ret ?_)
    | refine WC.seq ?_
    | refine WC.block ?_
    | refine WC.region ?_
    | refine WC.draw ?_
    | refine WC.skip ?_
    | refine WC.cond rfl (fun hc => ?_) (fun hc => ?_)
    | refine WO.nil ?_
    | refine WO.cons ?_
    | refine WD.nil ?_
    | refine WD.cons0 ?_
    | refine WD.consH ?_
    | refine WD.consR ?_
    | refine W1.mv rfl ?_
    | refine W1.nilck rfl ?_
    | refine W1.fa rfl ?_
    | refine W1.geq rfl rfl ?_
    | refine W1.bldS rfl rfl rfl (fun bb => ?_)
    | refine W1.alloc rfl (fun bb => ?_)
    | refine Exists.intro _ (And.intro (Res.tmp rfl Res.nil) ?_)
    | refine W1.st rfl rfl rfl rfl .here (by decide) ?_
    | refine W1.sub rfl rfl (by omega) (by omega) ?_
    | refine W1.ldS rfl .here rfl (conjR (ReC.ldS rfl rfl .here rfl) (by simp) ?_)
    | refine W1.ldS rfl (.there .here) rfl ?_
  all_goals first
    | exact ⟨rfl, _, rfl, fun h => by omega⟩
    | exact ⟨rfl, _, rfl, fun _ => ⟨x, y, hrow, by have h1 := ht ‹_›; have h2 := of_decide_eq_false ‹decide (y ≤ x) = false›; omega⟩⟩
def kindsLoop : ICode := (ICode.block 2
          (ICode.loop
            (ICode.seq (ICode.region [⟨(some 59), (.bin .lss (.t 58) (.t 57)), none⟩])
            (ICode.seq (ICode.cond (.t 59)
              ICode.skip
              (ICode.exit 2))
            (ICode.seq (ICode.block 3
              (ICode.seq (ICode.region [⟨(some 60), (.mv (.t 58)), none⟩,
                ⟨(some 8), (.mv (.t 60)), none⟩])
              (ICode.seq (ICode.region [⟨(some 61), (.fa (.t 7) 4), none⟩,
                ⟨(some 62), (.ld false 1 (.t 61)), none⟩,
                ⟨(some 63), (.mv (.t 8)), none⟩,
                ⟨(some 64), (.call (.t 62) [(.t 63)]), none⟩,
                ⟨(some 4), (.mv (.t 64)), none⟩])
              (ICode.seq (ICode.region [⟨(some 65), (.mv (.t 4)), none⟩,
                ⟨(some 66), (.bin .neq (.t 65) (.c (.int .i64 0))), none⟩])
              (ICode.cond (.t 66)
                (ICode.seq (ICode.region [⟨(some 67), (.fa (.t 7) 0), none⟩,
                  ⟨(some 68), (.ld false 1 (.t 67)), none⟩,
                  ⟨(some 69), (.mv (.t 8)), none⟩,
                  ⟨(some 70), (.mv (.t 4)), none⟩,
                  ⟨(some 2), (.mv (.t 68)), none⟩,
                  ⟨(some 3), (.mv (.t 69)), none⟩,
                  ⟨(some 4), (.mv (.t 70)), none⟩])
                ICode.ret)
                ICode.skip)))))
            (ICode.region [⟨(some 71), (.bin .add (.t 58) (.c (.int .i64 1))), none⟩,
              ⟨(some 58), (.mv (.t 71)), none⟩]))))))
theorem kind_ok {g : Gz} {M : Mem} {b7 b40 : Nat} {part least most : Int} {many fn bT : Nat} {R : Nat → Prop} {L : Env} {K : X → Env → Mem → Prop} {j : Int} (hmany : many ≤ 1000000000)
    (hf : ∀ (i : Int) M, 0 ≤ i → i < many → WF tbl g fn [.ptr bT 0, .int .i64 i] M fun v M' => M' = M ∧ ∃ e, v = .int .i64 e ∧ (e = 0 → R i.toNat))
    (hL : subL L [(7, .ptr b7 0), (40, .slice b40 0 3 (some 3) 5), (41, .int .i64 3), (42, .int .i64 j), (57, .int .i64 many), (58, .int .i64 0)])
    (hr : ∀ L', lk L' 2 = some (.int .i64 part) → (∃ q, lk L' 3 = some (.int .i64 q)) → (∃ e, lk L' 4 = some (.int .i64 e) ∧ e ≠ 0) → K .ret L' ((b7, Arr1 [.int .i64 part, .int .i64 least, .int .i64 most, .int .i64 many, .func fn [.ptr bT 0] []] {}) :: M))
    (hn : (∀ i, i < many → R i) → ∀ L', subL L' [(7, .ptr b7 0), (40, .slice b40 0 3 (some 3) 5), (41, .int .i64 3), (42, .int .i64 j)] → K .normal L' ((b7, Arr1 [.int .i64 part, .int .i64 least, .int .i64 most, .int .i64 many, .func fn [.ptr bT 0] []] {}) :: M)) :
    WC tbl g none kindsLoop L ((b7, Arr1 [.int .i64 part, .int .i64 least, .int .i64 most, .int .i64 many, .func fn [.ptr bT 0] []] {}) :: M) K := by
  refine WC.block ?_
  refine WC.loopE (ι := Int) (fun i => (many - i).toNat) (fun i => [(7, .ptr b7 0), (40, .slice b40 0 3 (some 3) 5), (41, .int .i64 3), (42, .int .i64 j), (57, .int .i64 many), (58, .int .i64 i)])
    (fun i M' => 0 ≤ i ∧ i ≤ many ∧ M' = ((b7, Arr1 [.int .i64 part, .int .i64 least, .int .i64 most, .int .i64 many, .func fn [.ptr bT 0] []] {}) :: M) ∧ ∀ q : Nat, (q : Int) < i → R q) ?_ 0 _ _ hL ⟨by omega, by omega, rfl, fun q h => by omega⟩
  rintro i M' ⟨h0, h1, rfl, hR⟩
  refine WC.seq (WC.region (WO.cons (W1.lss rfl rfl (WO.nil ?_))))
  refine WC.seq (WC.cond rfl (fun hlt => WC.skip ?_) (fun hge => WC.exit ?_))
  · have hlt' := of_decide_eq_true hlt
    repeat' first
      | (refine W1.callV rfl rfl (WV.func ((hf i _ h0 hlt').mono fun v M' => ?_)); rintro ⟨rfl, e, rfl, he⟩)
      | refine WC.ret ?_
      | refine WC.seq ?_
      | refine WC.block ?_
      | refine WC.region ?_
      | refine WC.skip ?_
      | refine WC.cond rfl (fun hc => ?_) (fun hc => ?_)
      | refine WO.nil ?_
      | refine WO.cons ?_
      | refine W1.mv rfl ?_
      | refine W1.fa rfl ?_
      | refine W1.neq rfl rfl ?_
      | refine W1.ldS rfl .here rfl ?_
      | refine W1.add rfl rfl (by omega) (by omega) ?_
    · exact hr _ rfl ⟨_, rfl⟩ ⟨_, rfl, by simpa using ‹(!decide (e = 0)) = true›⟩
    · refine ⟨i + 1, by omega, by repeat (first | exact subL.nil _ | refine subL.cons rfl ?_), by omega, by omega, rfl, fun q hq => ?_⟩
      by_cases hqi : (q : Int) < i
      · exact hR q hqi
      · have : q = i.toNat := by omega
        subst this
        exact he (by simpa using ‹(!decide (e = 0)) = false›)
  · have hge' := of_decide_eq_false hge
    exact hn (fun q hq => hR q (by omega)) _ (by repeat (first | exact subL.nil _ | refine subL.cons rfl ?_))
end Go.Ax
end
section
namespace Go.Ax
open Go.Ax.Ir
def Suf (M M' : Mem) : Prop := ∃ R, M' = R ++ M
theorem Suf.refl {M : Mem} : Suf M M := ⟨[], rfl⟩
theorem Suf.cons {M M' : Mem} {x : Nat × BP} (h : Suf M M') : Suf M (x :: M') := by
  obtain ⟨R, rfl⟩ := h; exact ⟨x :: R, rfl⟩
theorem Suf.app {M M' X : Mem} (h : Suf M M') : Suf M (X ++ M') := by
  obtain ⟨R, rfl⟩ := h; exact ⟨X ++ R, by simp⟩
theorem Suf.trans {A B C : Mem} (h : Suf A B) (k : Suf B C) : Suf A C := by
  obtain ⟨R, rfl⟩ := h
  obtain ⟨S, rfl⟩ := k
  exact ⟨S ++ R, by simp⟩
theorem WF.trimS {ft : FT FnR} {g : Gz} {f : Nat} {args : List V} {M : Mem} {Q : V → Prop} (h : WF ft g f args M fun v M' => Suf M M' ∧ Q v) : WF ft g f args M fun v M' => M' = M ∧ Q v :=
  WF.trim (h.mono fun v M' ⟨⟨R, e⟩, q⟩ => ⟨M, R, by rw [e], rfl, q⟩)
attribute [local irreducible] W1 WO WC WD WF WV
theorem TrOk.sc5 {g : Gz} {t : TrD} (ok : TrOk g t) : (V.agg t.cells).cells.all V.scalar = true := by
  simp only [V.cells, TrD.cells, List.all_cons, List.all_nil, ok.sv, ok.sc, ok.sa, Bool.and_true]; rfl
theorem TrOk.sc6 {g : Gz} {t : TrD} (ok : TrOk g t) (km : V) (h : km.scalar = true) : (t.cells ++ [km]).all V.scalar = true := by
  simp only [TrD.cells, List.cons_append, List.nil_append, List.all_cons, List.all_nil, ok.sv, ok.sc, ok.sa, h, Bool.and_true]; rfl
theorem At.app {M M' X : Mem} {b : Nat} {p : BP} (h : At M b p M') : At (X ++ M) b p (X ++ M') := by
  induction X with
  | nil => exact h
  | cons x X ih => exact .there ih
def cS1 : ICode → ICode
  | .seq a _ => a
  | c => c
def cS2 : ICode → ICode
  | .seq _ b => b
  | c => c
def cBl : ICode → ICode
  | .block _ b => b
  | .loop b => b
  | c => c
def ir7blk : ICode := cS2 (cS1 (cS2 (cS2 (cS2 ir7.code))))
def ir7body : ICode := cBl (cBl ir7blk)
theorem f7_round {g : Gz} {M M0 : Mem} {bk bT fn many j : Nat} {cs : List V} {part least most : Int} {R : Nat → Prop} {K : X → Env → Mem → Prop} {L : Env} (hat : At M bk (Arr1 cs {}) M0) (hj : j < 3) (hmany : many ≤ 1000000000)
    (hcs : 5 * j + 5 ≤ cs.length) (hrow : (cs.drop (0 + (j : Int).toNat * 5)).take 5 = [.int .i64 part, .int .i64 least, .int .i64 most, .int .i64 many, .func fn [.ptr bT 0] []])
    (hf : ∀ (i : Int) M, 0 ≤ i → i < many → WF tbl g fn [.ptr bT 0, .int .i64 i] M fun v M' => M' = M ∧ ∃ e, v = .int .i64 e ∧ (e = 0 → R i.toNat))
    (hL : subL L [(40, .slice bk 0 3 (some 3) 5), (41, .int .i64 3), (42, .int .i64 j)])
    (hr : ∀ L' M', Suf M M' → lk L' 2 = some (.int .i64 part) → (∃ q, lk L' 3 = some (.int .i64 q)) → (∃ e, lk L' 4 = some (.int .i64 e) ∧ e ≠ 0) → K .ret L' M')
    (hn : ∀ L' M', Suf M M' → least ≤ many → many ≤ most → (∀ i, i < many → R i) → subL L' [(40, .slice bk 0 3 (some 3) 5), (41, .int .i64 3), (42, .int .i64 (j + 1 : Nat))] → K .normal L' M') :
    WC tbl g none ir7body L M K := by
  refine WC.weak hL ?_
  have hlt : decide ((j : Int) < 3) = true := decide_eq_true (by omega)
  refine WC.seq (WC.region (WO.cons (W1.lss rfl rfl (WO.nil ?_))))
  refine WC.seq (WC.cond_t rfl hlt (WC.skip ?_))
  refine WC.seq (WC.block (WC.seq (WC.region (WO.cons (W1.ia rfl rfl (by omega) (by omega) (WO.cons (W1.ldA rfl hat (by omega) (WO.cons (W1.alloc rfl fun b7 => WO.cons ?_)))))))))
  rw [hrow]
  refine W1.st (v := .agg [.int .i64 part, .int .i64 least, .int .i64 most, .int .i64 many, .func fn [.ptr bT 0] []]) rfl rfl rfl rfl .here (Nat.le_of_ble_eq_true rfl) (WO.nil ?_)
  repeat' first
    | refine WC.drop (List.sublist_cons_self _ _) (kind_ok (part := part) (least := least) (most := most) (R := R) (j := (j : Int)) hmany hf (by repeat (first | exact subL.nil _ | refine subL.cons rfl ?_)) (fun L' p2 p3 p4 => ?_) (fun hv L' hL => WC.weak hL ?_))
    | (refine W1.callV rfl rfl (WV.func ((f40one .here).mono fun v M' => ?_)); rintro ⟨rfl, tt, rfl, ht⟩)
    | refine WC.ret ?_
    | refine WC.seq ?_
    | refine WC.region ?_
    | refine WC.skip ?_
    | refine WC.cond rfl (fun hc => ?_) (fun hc => ?_)
    | refine WO.nil ?_
    | refine WO.cons ?_
    | refine W1.mv rfl ?_
    | refine W1.fa rfl ?_
    | refine W1.bldS rfl rfl rfl (fun bb => ?_)
    | refine W1.ldS rfl .here rfl ?_
    | refine W1.ldS rfl (.there .here) rfl ?_
    | refine W1.add rfl rfl (by omega) (by omega) ?_
  · exact hr _ _ (by repeat (first | exact Suf.refl | apply Suf.cons)) rfl ⟨_, rfl⟩ ⟨3, rfl, by decide⟩
  · exact hr _ _ (by repeat (first | exact Suf.refl | apply Suf.cons)) p2 p3 p4
  · have h9 := ht ‹_›
    exact hn _ _ (by repeat (first | exact Suf.refl | apply Suf.cons)) h9.1 h9.2 hv (by repeat (first | exact subL.nil _ | refine subL.cons rfl ?_))
theorem f7_kinds {g : Gz} {M M0 : Mem} {t : TrD} {bk bT : Nat} {L : Env} {K : X → Env → Mem → Prop} (ok : TrOk g t) (hT : g bT = some (.arr (t.cells ++ [.nilmap]) {})) (hst : 1 ≤ t.stops ∧ t.stops ≤ 3)
    (hat : At M bk (Arr1 [.int .i64 2, .int .i64 1, .int .i64 3, .int .i64 t.nv, .func 41 [.ptr bT 0] [], .int .i64 3, .int .i64 0, .int .i64 6, .int .i64 t.nc, .func 42 [.ptr bT 0] [], .int .i64 4, .int .i64 0, .int .i64 4, .int .i64 t.na, .func 43 [.ptr bT 0] []] {}) M0)
    (hL : subL L [(40, .slice bk 0 3 (some 3) 5), (41, .int .i64 3), (42, .int .i64 0)])
    (hr : ∀ L' M', Suf M M' → (∃ p, lk L' 2 = some (.int .i64 p)) → (∃ q, lk L' 3 = some (.int .i64 q)) → (∃ e, lk L' 4 = some (.int .i64 e) ∧ e ≠ 0) → K .ret L' M')
    (hn : ∀ L' M', Suf M M' → (0 ≤ t.handle ∧ t.handle ≤ 60 → TrVal t) → K .normal L' M') : WC tbl g none ir7blk L M K := by
  have hnv := ok.nv
  have hnc := ok.nc
  have hna := ok.na
  refine WC.block (WC.unroll ?_)
  refine f7_round (j := 0) (R := fun i => (t.nl i : Int) = t.stops ∧ ∀ j, j < t.nl i → ∃ a b, t.leg i j = [.int .i64 a, .int .i64 b] ∧ 0 ≤ a ∧ a ≤ b ∧ b ≤ 600) hat (by omega) hnv (Nat.le_of_ble_eq_true rfl) rfl (fun i M h0 h1 => f41 ok hT h0 h1) hL (fun L' M' s p2 p3 p4 => hr L' M' s ⟨_, p2⟩ p3 p4) fun L1 M1 s1 a1 a2 hv hL1 => ?_
  obtain ⟨X1, rfl⟩ := s1
  refine WC.unroll (f7_round (j := 1) (R := fun i => ∃ nm a b c, t.crate i = [.str nm, .int .i64 a, .int .i64 b, .int .i64 c] ∧ 0 ≤ b ∧ b < t.stops) hat.app (by omega) hnc (Nat.le_of_ble_eq_true rfl) rfl (fun i M h0 h1 => f42 ok hT h0 h1 (by omega)) hL1 (fun L' M' s p2 p3 p4 => hr L' M' (by obtain ⟨R, rfl⟩ := s; exact ⟨R ++ X1, by simp⟩) ⟨_, p2⟩ p3 p4) fun L2 M2 s2 b1 b2 hc hL2 => ?_)
  obtain ⟨X2, rfl⟩ := s2
  refine WC.unroll (f7_round (j := 2) (R := fun i => ∃ a b, t.pair i = [.int .i64 a, .int .i64 b] ∧ 0 ≤ a ∧ a < b ∧ b < t.nc) hat.app.app (by omega) hna (Nat.le_of_ble_eq_true rfl) rfl (fun i M h0 h1 => f43' ok hT h0 h1) hL2 (fun L' M' s p2 p3 p4 => hr L' M' (by obtain ⟨R, rfl⟩ := s; exact ⟨R ++ X2 ++ X1, by simp⟩) ⟨_, p2⟩ p3 p4) fun L3 M3 s3 c1 c2 hp hL3 => ?_)
  obtain ⟨X3, rfl⟩ := s3
  refine WC.unroll (WC.weak hL3 ?_)
  have hlt : decide ((3 : Int) < 3) = false := by decide
  refine WC.seq (WC.region (WO.cons (W1.lss rfl rfl (WO.nil ?_))))
  refine WC.seq (WC.cond_f rfl hlt (WC.exit ?_))
  exact hn _ _ ⟨X3 ++ X2 ++ X1, by simp⟩ fun hh => ⟨hst, hh, by omega, by omega, by omega, hv, hc, hp⟩
theorem f7 {g : Gz} {M : Mem} {t : TrD} (ok : TrOk g t) :
    WF tbl g 7 [.agg t.cells] M fun v M' => M' = M ∧ ∃ p a e, v = .tup [.int .i64 p, .int .i64 a, .int .i64 e] ∧ (e = 0 → TrVal t) := by
  refine WF.trimS (WF.intro rfl (Nat.le_of_ble_eq_true rfl) ?_)
  repeat' first
    | refine WC.freeze (cs := t.cells ++ [.nilmap]) (.there .here) (fun hb => f7_kinds (bk := bb) (ok.lessG (Gz.le_add hb)) (Gz.add_eq _ _ _) (‹_ = false → 1 ≤ t.stops ∧ t.stops ≤ 3› (by assumption)) .here ?_ ?_ ?_)
    | refine W1.lenSlc rfl ok.hv.up.1 ?_
    | refine W1.lenSlc rfl ok.hc.up.1 ?_
    | refine W1.lenSlc rfl ok.ha.up.1 ?_
    | refine W1.box rfl ok.sc5 (fun b1 => ?_)
    | (refine W1.callV rfl rfl (WV.func ((f40one .here).mono fun v M' => ?_)); rintro ⟨rfl, tt, rfl, ht⟩)
    | refine WC.ret ?_
    | refine W1.len rfl ?_
    | refine W1.ldA rfl (.there (.there .here)) (Nat.le_of_ble_eq_true rfl) ?_
    | refine WC.seq ?_
    | refine WC.region ?_
    | refine WC.skip ?_
    | refine WC.cond_t rfl (by first | assumption | rfl) ?_
    | refine WC.cond rfl (fun hc => ?_) (fun hc => ?_)
    | refine WO.nil ?_
    | refine WO.cons ?_
    | refine W1.guard_y rfl (by first | assumption | rfl) ?_
    | refine W1.guard_n rfl (by first | assumption | rfl) ?_
    | refine W1.guard rfl (fun hc => ?_) (fun hc => ?_)
    | refine W1.pick_t rfl (by first | assumption | rfl) rfl ?_
    | refine W1.pick_f rfl (by first | assumption | rfl) rfl ?_
    | refine W1.mv rfl ?_
    | refine W1.fa rfl ?_
    | refine W1.mkfn rfl rfl ?_
    | refine W1.bld rfl rfl ?_
    | refine W1.bldS rfl rfl rfl (fun bb => ?_)
    | refine Exists.intro _ (And.intro (Res.tmp rfl (Res.tmp rfl (Res.tmp rfl Res.nil))) ?_)
    | refine W1.ldS rfl .here rfl ?_
    | refine W1.ldS rfl (.there .here) rfl ?_
    | refine W1.ldS rfl (.there (.there (.there .here))) rfl ?_
  · exact ⟨by repeat (first | exact Suf.refl | apply Suf.cons), _, _, _, rfl, fun h => absurd h (by decide)⟩
  · repeat (first | exact subL.nil _ | refine subL.cons rfl ?_)
  · rintro L' M' s ⟨p, hp⟩ ⟨q, hq⟩ ⟨e, he, hne⟩
    exact ⟨_, Res.tmp hp (Res.tmp hq (Res.tmp he Res.nil)), Suf.trans (by repeat (first | exact Suf.refl | apply Suf.cons)) s.cons, _, _, _, rfl, fun h => absurd h hne⟩
  · intro L' M' s hv
    repeat' first
      | refine WC.ret ?_
      | refine WC.seq ?_
      | refine WC.region ?_
      | refine WO.nil ?_
      | refine WO.cons ?_
      | refine W1.mv rfl ?_
      | refine Exists.intro _ (And.intro (Res.tmp rfl (Res.tmp rfl (Res.tmp rfl Res.nil))) ?_)
    exact ⟨Suf.trans (by repeat (first | exact Suf.refl | apply Suf.cons)) s.cons, _, _, _, rfl, fun _ => hv (‹_ = false → 0 ≤ t.handle ∧ t.handle ≤ 60› (by assumption))⟩
  · exact ⟨by repeat (first | exact Suf.refl | apply Suf.cons), _, _, _, rfl, fun h => absurd h (by decide)⟩
end Go.Ax
end
section
namespace Go.Ax
open Go.Ax.Ir
theorem Suf.sublist {M M' : Mem} (h : Suf M M') : M.Sublist M' := by
  obtain ⟨R, rfl⟩ := h; exact List.sublist_append_right _ _
theorem WC.loopS {ft : FT FnR} {g : Gz} {cur : Option Nat} {b : ICode} {K : X → Env → Mem → Prop} {ι : Type} (m : ι → Nat) (E : ι → Env) (J : ι → Mem → Prop)
    (h : ∀ x M, J x M → WC ft g cur b (E x) M (thenC (fun L' M' => ∃ y M1, m y < m x ∧ subL L' (E y) ∧ Suf M1 M' ∧ J y M1) K)) (x : ι) (L : Env) (M : Mem) (h1 : subL L (E x)) (h2 : J x M) : WC ft g cur (.loop b) L M K := by
  refine WC.loop (fun k L M => ∃ x M1, k = m x ∧ subL L (E x) ∧ Suf M1 M ∧ J x M1) ?_ (m x) L M ⟨x, M, rfl, h1, .refl, h2⟩
  rintro k L M ⟨x, M1, rfl, h1, hs, h2⟩
  refine WC.drop hs.sublist (WC.weak h1 (WC.mono (h x M1 h2) fun y L' M' => ?_))
  cases y with
  | normal => rintro ⟨z, M2, h3, h4, h5, h6⟩; exact ⟨m z, h3, z, M2, rfl, h4, h5, h6⟩
  | _ => exact fun h => h
theorem Rds.at {g : Gz} {M : Mem} {b o : Nat} {vs : List V} (h : Rds g M b o vs) (j : Nat) {v : V} (hj : vs[j]? = some v) : Rd g M b (o + j) v := by
  intro hp hs
  obtain ⟨cs, a, h1, h2, h3, h4⟩ := h hp hs
  refine ⟨cs, a, h1, h2, ?_⟩
  have hlt := (List.getElem?_eq_some_iff.1 hj).1
  rw [← h4, List.getElem?_take, if_pos hlt, List.getElem?_drop] at hj
  exact hj
theorem perm_rot3 (x y z : Nat × BP) (l : Mem) : (x :: y :: z :: l).Perm ([z] ++ (x :: y :: l)) :=
  (List.Perm.cons x (List.Perm.swap z y l)).trans (List.Perm.swap z x _)
def Ints (n : Nat) (v : V) : Prop := ∃ cs, v = .agg cs ∧ cs.length = n ∧ ∀ x ∈ cs, ∃ q, x = .int .i64 q
attribute [local irreducible] W1 WO WC WD WF WV
theorem W1.mkmapOf {ft : FT FnR} {g : Gz} {L : Env} {M : Mem} {K : Env → Mem → Prop} {d : Nat} (Pk Pv : V → Prop) (h : ∀ b, K ((d, .map b) :: L) ((b, MapOf Pk Pv) :: M)) : W1 ft g ⟨some d, .mkmap, none⟩ L M K :=
  W1.make (p := MapOf Pk Pv) (f := fun b => .map b) (blk := .map [] 0) rfl (fun _ _ => rfl) ⟨[], 0, rfl, by simp⟩ h
theorem f55 {g : Gz} {M : Mem} {t : TrD} (ok : TrOk g t) :
    WF tbl g 55 [.agg t.cells] M fun v M' => (∃ e, e ≠ 0 ∧ v = .tup [.nilptr, .int .i64 e] ∧ M' = M) ∨
      (∃ bT bm, v = .tup [.ptr bT 0, .int .i64 0] ∧ M' = (bT, Arr1 (t.cells ++ [.map bm]) {}) :: (bm, MapOf (Ints 6) (Ints 3)) :: M ∧ TrVal t) := by
  refine WF.trim (WF.intro rfl (Nat.le_of_ble_eq_true rfl) ?_)
  repeat' first
    | refine W1.box rfl ok.sc5 (fun b1 => ?_)
    | refine W1.box rfl (ok.sc6 _ rfl) (fun b1 => ?_)
    | (refine W1.callV rfl rfl (WV.func ((f7 ok).mono fun v M' => ?_)); rintro ⟨rfl, p, a, e, rfl, hv⟩)
    | refine W1.mkmapOf (Ints 6) (Ints 3) (fun bm => ?_)
    | refine WC.ret ?_
    | refine W1.ldA rfl .here (Nat.le_of_ble_eq_true rfl) ?_
    | refine WC.seq ?_
    | refine WC.block ?_
    | refine WC.region ?_
    | refine WC.draw ?_
    | refine WC.scope ?_
    | refine WC.skip ?_
    | refine WC.exit ?_
    | refine WC.cond_t rfl (by first | assumption | rfl) ?_
    | refine WC.cond_f rfl (by first | assumption | rfl) ?_
    | refine WC.cond rfl (fun hc => ?_) (fun hc => ?_)
    | refine WO.nil ?_
    | refine WO.cons ?_
    | refine WD.nil ?_
    | refine WD.cons0 ?_
    | refine WD.consH ?_
    | refine WD.consR ?_
    | refine W1.guard_y rfl (by first | assumption | rfl) ?_
    | refine W1.guard_n rfl (by first | assumption | rfl) ?_
    | refine W1.guard_u rfl ?_
    | refine W1.guard rfl (fun hc => ?_) (fun hc => ?_)
    | refine W1.pick_t rfl (by first | assumption | rfl) rfl ?_
    | refine W1.pick_f rfl (by first | assumption | rfl) rfl ?_
    | refine W1.mv rfl ?_
    | refine W1.nilck rfl ?_
    | refine W1.fa rfl ?_
    | refine W1.ext rfl rfl ?_
    | refine W1.fldS rfl rfl ?_
    | refine W1.fldA rfl (by decide) ?_
    | refine W1.mkfn rfl rfl ?_
    | refine W1.lss rfl rfl ?_
    | refine W1.leq rfl rfl ?_
    | refine W1.gtr rfl rfl ?_
    | refine W1.geq rfl rfl ?_
    | refine W1.eql rfl rfl ?_
    | refine W1.neq rfl rfl ?_
    | refine W1.not rfl ?_
    | refine W1.lenc ?_
    | refine W1.lenS rfl ?_
    | refine W1.bld rfl rfl ?_
    | refine W1.bldS rfl rfl rfl (fun bb => ?_)
    | refine W1.alloc rfl (fun bb => ?_)
    | refine W1.box rfl rfl (fun bb => ?_)
    | refine Exists.intro _ (And.intro Res.nil ?_)
    | refine Exists.intro _ (And.intro (Res.tmp rfl Res.nil) ?_)
    | refine Exists.intro _ (And.intro (Res.tmp rfl (Res.tmp rfl Res.nil)) ?_)
    | refine Exists.intro _ (And.intro (Res.tmp rfl (Res.tmp rfl (Res.tmp rfl Res.nil))) ?_)
    | refine W1.ldS rfl .here rfl (conjR (ReC.ldS rfl rfl .here rfl) (by simp) ?_)
    | refine W1.ldS rfl .here rfl ?_
    | refine W1.ldS rfl (.there .here) rfl (conjR (ReC.ldS rfl rfl (.there .here) rfl) (by simp) ?_)
    | refine W1.ldS rfl (.there .here) rfl ?_
  · exact ⟨M, [_], List.Perm.refl _, Or.inl ⟨e, by simpa using hc, rfl, rfl⟩⟩
  · have he : e = 0 := by simpa using hc
    exact ⟨_, _, perm_rot3 _ _ _ _, Or.inr ⟨_, _, rfl, rfl, hv he⟩⟩
theorem f97 {g : Gz} {M : Mem} {s fv : V} {n : Nat} {row : Nat → List V} {R : Nat → Bool → Prop} (hs : SlcR g M s n 2 row) (hn : n ≤ 1000000000000)
    (hf : ∀ i, i < n → WV tbl g fv [.agg (row i)] M fun v M' => M' = M ∧ ∃ t, v = .bool t ∧ R i t) :
    WF tbl g 97 [s, fv] M fun v M' => M' = M ∧ ∃ k : Int, v = .int .i64 k ∧ (k < 0 → ∀ i, i < n → R i false) := by
  refine WF.intro rfl (Nat.le_of_ble_eq_true rfl) ?_
  refine WC.seq (WC.region (WO.cons (W1.mv rfl (WO.nil ?_))))
  refine WC.seq (WC.seq (WC.region (WO.cons (W1.mv rfl (WO.cons (W1.lenSlc rfl hs.1 (WO.cons (W1.mv rfl (WO.nil ?_)))))))))
  refine WC.block ?_
  refine WC.loopE (ι := Int) (fun i => (n - i).toNat) (fun i => [(0, s), (1, fv), (7, .int .i64 n), (8, .int .i64 i)]) (fun i M' => 0 ≤ i ∧ i ≤ n ∧ M' = M ∧ ∀ j : Nat, (j : Int) < i → R j false) ?_ 0 _ _
    (by repeat (first | exact subL.nil _ | refine subL.cons rfl ?_)) ⟨by omega, by omega, rfl, fun j h => by omega⟩
  rintro i M' ⟨h0, h1, rfl, hR⟩
  repeat' first
    | refine WC.seq ?_
    | refine WC.block ?_
    | refine WC.region ?_
    | refine WC.skip ?_
    | refine WC.exit ?_
    | refine WC.ret ?_
    | refine WC.cond rfl (fun hc => ?_) (fun hc => ?_)
    | refine WO.nil ?_
    | refine WO.cons ?_
    | refine W1.mv rfl ?_
    | refine W1.lss rfl rfl ?_
    | refine W1.add rfl rfl (by omega) (by omega) ?_
    | refine W1.iaRow rfl rfl hs (by omega) (by have := of_decide_eq_true ‹decide _ = true›; omega) (fun b o hrd => ?_)
    | refine W1.ldV rfl (hs.2.2 _ (by have := of_decide_eq_true ‹decide _ = true›; omega)) hrd ?_
    | (refine W1.callV rfl rfl ((hf i.toNat (by have := of_decide_eq_true ‹decide _ = true›; omega)).mono fun v M' => ?_); rintro ⟨rfl, t, rfl, ht⟩)
    | refine Exists.intro _ (And.intro (Res.tmp rfl Res.nil) ?_)
  · exact ⟨rfl, i, rfl, fun h => by omega⟩
  · have hlt := of_decide_eq_true ‹decide (i < (n : Int)) = true›
    refine ⟨i + 1, by omega, by repeat (first | exact subL.nil _ | refine subL.cons rfl ?_), by omega, by omega, rfl, fun j hj => ?_⟩
    by_cases hji : (j : Int) < i
    · exact hR j hji
    · have : j = i.toNat := by omega
      subst this
      exact hc ▸ ht
  · have hge := of_decide_eq_false hc
    exact ⟨rfl, -1, rfl, fun _ j hj => hR j (by omega)⟩
theorem f80 {g : Gz} {M : Mem} {s fv : V} {n : Nat} {row : Nat → List V} {R : Nat → Bool → Prop} (hs : SlcR g M s n 2 row) (hn : n ≤ 1000000000000)
    (hf : ∀ i, i < n → WV tbl g fv [.agg (row i)] M fun v M' => M' = M ∧ ∃ t, v = .bool t ∧ R i t) :
    WF tbl g 80 [s, fv] M fun v M' => M' = M ∧ ∃ t, v = .bool t ∧ (t = false → ∀ i, i < n → R i false) := by
  refine WF.intro rfl (Nat.le_of_ble_eq_true rfl) ?_
  repeat' first
    | refine WC.seq ?_
    | refine WC.region ?_
    | refine WC.ret ?_
    | refine WO.nil ?_
    | refine WO.cons ?_
    | refine W1.mv rfl ?_
    | refine W1.geq rfl rfl ?_
    | (refine W1.callV rfl rfl (WV.func ((f97 hs hn hf).mono fun v M' => ?_)); rintro ⟨rfl, k, rfl, hk⟩)
    | refine Exists.intro _ (And.intro (Res.tmp rfl Res.nil) ?_)
  exact ⟨rfl, _, rfl, fun h => hk (by simp at h; omega)⟩
def PlOk (t : TrD) (p : List V) (f : Nat → Int) : Prop := p.length = 6 ∧ ∀ i, i < 6 → p[i]? = some (.int .i64 (f i)) ∧ 0 ≤ f i ∧ f i ≤ t.nv
theorem PlOk.sc {t : TrD} {p : List V} {f : Nat → Int} (h : PlOk t p f) : (V.agg p).cells.all V.scalar = true := by
  refine List.all_eq_true.2 fun v hv => ?_
  obtain ⟨i, hi⟩ := List.getElem?_of_mem hv
  have hlt := (List.getElem?_eq_some_iff.1 hi).1
  have := (h.2 i (by rw [← h.1]; exact hlt)).1
  have hi' : p[i]? = some v := hi
  rw [this] at hi'; cases hi'; rfl
theorem f81 {g : Gz} {M M1 M2 : Mem} {x y a c : Int} {b1 b2 : Nat} (h1 : At M b1 (Arr1 [.int .i64 a] {}) M1) (h2 : At M b2 (Arr1 [.int .i64 c] {}) M2) :
    WF tbl g 81 [.agg [.int .i64 x, .int .i64 y], .ptr b1 0, .ptr b2 0] M fun v M' => M' = M ∧ ∃ t, v = .bool t := by
  refine WF.intro rfl (Nat.le_of_ble_eq_true rfl) ?_
  repeat' first
    | refine W1.ldS rfl (.there h1) rfl ?_
    | refine W1.ldS rfl (.there h2) rfl ?_
    | refine W1.ldA rfl .here (Nat.le_of_ble_eq_true rfl) ?_
    | refine W1.eqv rfl rfl rfl ?_
    | refine WC.drop (M' := M) (by repeat (first | exact List.Sublist.refl _ | apply List.Sublist.cons)) (WC.ret ?_)
    | refine WC.seq ?_
    | refine WC.block ?_
    | refine WC.region ?_
    | refine WC.draw ?_
    | refine WC.scope ?_
    | refine WC.skip ?_
    | refine WC.exit ?_
    | refine WC.cond_t rfl (by first | assumption | rfl) ?_
    | refine WC.cond_f rfl (by first | assumption | rfl) ?_
    | refine WC.cond rfl (fun hc => ?_) (fun hc => ?_)
    | refine WO.nil ?_
    | refine WO.cons ?_
    | refine WD.nil ?_
    | refine WD.cons0 ?_
    | refine WD.consH ?_
    | refine WD.consR ?_
    | refine W1.guard_y rfl (by first | assumption | rfl) ?_
    | refine W1.guard_n rfl (by first | assumption | rfl) ?_
    | refine W1.guard_u rfl ?_
    | refine W1.guard rfl (fun hc => ?_) (fun hc => ?_)
    | refine W1.pick_t rfl (by first | assumption | rfl) rfl ?_
    | refine W1.pick_f rfl (by first | assumption | rfl) rfl ?_
    | refine W1.mv rfl ?_
    | refine W1.nilck rfl ?_
    | refine W1.fa rfl ?_
    | refine W1.ext rfl rfl ?_
    | refine W1.fldS rfl rfl ?_
    | refine W1.fldA rfl (by decide) ?_
    | refine W1.mkfn rfl rfl ?_
    | refine W1.lss rfl rfl ?_
    | refine W1.leq rfl rfl ?_
    | refine W1.gtr rfl rfl ?_
    | refine W1.geq rfl rfl ?_
    | refine W1.eql rfl rfl ?_
    | refine W1.neq rfl rfl ?_
    | refine W1.not rfl ?_
    | refine W1.lenc ?_
    | refine W1.lenS rfl ?_
    | refine W1.bld rfl rfl ?_
    | refine W1.bldS rfl rfl rfl (fun bb => ?_)
    | refine W1.alloc rfl (fun bb => ?_)
    | refine W1.box rfl rfl (fun bb => ?_)
    | refine Exists.intro _ (And.intro Res.nil ?_)
    | refine Exists.intro _ (And.intro (Res.tmp rfl Res.nil) ?_)
    | refine Exists.intro _ (And.intro (Res.tmp rfl (Res.tmp rfl Res.nil)) ?_)
    | refine Exists.intro _ (And.intro (Res.tmp rfl (Res.tmp rfl (Res.tmp rfl Res.nil))) ?_)
  exact ⟨rfl, _, rfl⟩
theorem f59 {g : Gz} {M : Mem} {t : TrD} {bT : Nat} {km : V} {p : List V} {f : Nat → Int} {c : Int} (ok : TrOk g t) (hT : g bT = some (.arr (t.cells ++ [km]) {})) (val : TrVal t) (hp : PlOk t p f) (hc0 : 0 ≤ c) (hc1 : c < t.nc) :
    WF tbl g 59 [.ptr bT 0, .agg p, .int .i64 c] M fun v M' => M' = M ∧ ∃ t, v = .bool t := by
  have hnc := val.nc
  have l0 : rdAgg g false bT 0 1 = some t.sv := by simp [rdAgg, hT, TrD.cells]
  have l3 : rdAgg g false bT 3 1 = some t.sc := by simp [rdAgg, hT, TrD.cells]
  have l4 : rdAgg g false bT 4 1 = some t.sa := by simp [rdAgg, hT, TrD.cells]
  obtain ⟨hpc, hf0, hf1⟩ := hp.2 c.toNat (by omega)
  have hpc' : p[0 + c.toNat * 1]? = some (.int .i64 (f c.toNat)) := by simpa using hpc
  refine WF.intro rfl (Nat.le_of_ble_eq_true rfl) ?_
  repeat' first
    | refine W1.box rfl hp.sc (fun b4 => ?_)
    | refine W1.iaa rfl rfl (by omega) (by omega) ?_
    | refine W1.ldS rfl (.there .here) hpc' ?_
    | refine WC.loopS (ι := Int × Int) (fun x => (c + 1 - x.1).toNat) (fun x => [(0, .ptr bT 0), (4, .ptr b4 0), (5, .ptr bb 0), (7, .int .i64 (f c.toNat)), (8, .int .i64 x.2), (16, .int .i64 (c + 1)), (17, .int .i64 x.1)]) (fun x M' => 0 ≤ x.1 ∧ x.1 ≤ c + 1 ∧ M' = (bb, Arr1 [.int .i64 c] {}) :: (b4, Arr1 p {}) :: M) ?_ (0, 0) _ _ (by repeat (first | exact subL.nil _ | refine subL.cons rfl ?_)) ⟨by omega, by omega, rfl⟩
    | refine WC.drop (M' := M) (by repeat (first | exact List.Sublist.refl _ | apply List.Sublist.cons)) (WC.ret ?_)
    | refine WC.seq ?_
    | refine WC.block ?_
    | refine WC.region ?_
    | refine WC.draw ?_
    | refine WC.scope ?_
    | refine WC.skip ?_
    | refine WC.exit ?_
    | refine WC.cond_t rfl (by first | assumption | rfl) ?_
    | refine WC.cond_f rfl (by first | assumption | rfl) ?_
    | refine WC.cond rfl (fun hc => ?_) (fun hc => ?_)
    | refine WO.nil ?_
    | refine WO.cons ?_
    | refine WD.nil ?_
    | refine WD.cons0 ?_
    | refine WD.consH ?_
    | refine WD.consR ?_
    | refine W1.guard_y rfl (by first | assumption | rfl) ?_
    | refine W1.guard_n rfl (by first | assumption | rfl) ?_
    | refine W1.guard_u rfl ?_
    | refine W1.guard rfl (fun hc => ?_) (fun hc => ?_)
    | refine W1.pick_t rfl (by first | assumption | rfl) rfl ?_
    | refine W1.pick_f rfl (by first | assumption | rfl) rfl ?_
    | refine W1.mv rfl ?_
    | refine W1.nilck rfl ?_
    | refine W1.fa rfl ?_
    | refine W1.ext rfl rfl ?_
    | refine W1.fldS rfl rfl ?_
    | refine W1.fldA rfl (by decide) ?_
    | refine W1.mkfn rfl rfl ?_
    | refine W1.lss rfl rfl ?_
    | refine W1.leq rfl rfl ?_
    | refine W1.gtr rfl rfl ?_
    | refine W1.geq rfl rfl ?_
    | refine W1.eql rfl rfl ?_
    | refine W1.neq rfl rfl ?_
    | refine W1.not rfl ?_
    | refine W1.lenc ?_
    | refine W1.lenS rfl ?_
    | refine W1.bld rfl rfl ?_
    | refine W1.bldS rfl rfl rfl (fun bb => ?_)
    | refine W1.alloc rfl (fun bb => ?_)
    | refine W1.box rfl rfl (fun bb => ?_)
    | refine Exists.intro _ (And.intro Res.nil ?_)
    | refine Exists.intro _ (And.intro (Res.tmp rfl Res.nil) ?_)
    | refine Exists.intro _ (And.intro (Res.tmp rfl (Res.tmp rfl Res.nil)) ?_)
    | refine Exists.intro _ (And.intro (Res.tmp rfl (Res.tmp rfl (Res.tmp rfl Res.nil))) ?_)
    | refine W1.ldS rfl .here rfl (conjR (ReC.ldS rfl rfl .here rfl) (by simp) ?_)
    | refine W1.ldS rfl .here rfl ?_
    | refine W1.add rfl rfl (by omega) (by omega) ?_
    | refine W1.sub rfl rfl (by omega) (by omega) ?_
  · exact ⟨rfl, _, rfl⟩
  · rintro ⟨i, sz⟩ M' ⟨h0, h1, rfl⟩
    dsimp only at h0 h1 ⊢
    refine WC.seq (WC.region (WO.cons (W1.lss rfl rfl (WO.nil ?_))))
    refine WC.seq (WC.cond rfl (fun hlt => WC.skip ?_) (fun hge => WC.exit ?_))
    · have hlt' := of_decide_eq_true hlt
      have hi6 : i.toNat < 6 := by omega
      obtain ⟨hpi, _, _⟩ := hp.2 i.toNat hi6
      have hpi' : p[0 + i.toNat * 1]? = some (.int .i64 (f i.toNat)) := by simpa using hpi
      obtain ⟨nm, a1, a2, a3, hrow⟩ := ok.crow i.toNat (by omega)
      refine WC.seq (WC.block ?_)
      repeat' first
        | refine W1.iaa rfl rfl (by omega) (by omega) ?_
        | refine W1.ldS rfl (.there (.there .here)) hpi' ?_
        | refine W1.ldG rfl l3 (conjR (ReC.ldG rfl rfl l3) (by simp) ?_)
        | refine W1.ldG rfl l4 ?_
        | refine W1.iaRow rfl rfl ok.hc.up (by omega) (by omega) (fun b o hrd => ?_)
        | refine W1.ldR rfl ((hrow ▸ hrd).at 1 rfl) (conjR (ReC.ldR rfl rfl ((hrow ▸ hrd).at 1 rfl)) (by simp) ?_)
        | refine W1.add rfl rfl (by omega) (by omega) ?_
        | refine W1.sub rfl rfl (by omega) (by omega) ?_
        | refine W1.addU rfl rfl (fun n => ?_)
        | (refine W1.callV rfl rfl (WV.func ((f80 (R := fun _ _ => True) ok.ha.up (by have := ok.na; omega) (fun q hq => by
            obtain ⟨x, y, hxy⟩ := ok.arow q hq
            rw [hxy]
            exact WV.func ((f81 .here (.there .here)).mono fun v M' ⟨e, t, ht⟩ => ⟨e, t, ht, trivial⟩))).mono fun v M' => ?_)); rintro ⟨rfl, tt, rfl, _⟩)
        | refine WC.drop (M' := M) (by repeat (first | exact List.Sublist.refl _ | apply List.Sublist.cons)) (WC.ret ?_)
        | refine WC.seq ?_
        | refine WC.block ?_
        | refine WC.region ?_
        | refine WC.draw ?_
        | refine WC.scope ?_
        | refine WC.skip ?_
        | refine WC.exit ?_
        | refine WC.cond_t rfl (by first | assumption | rfl) ?_
        | refine WC.cond_f rfl (by first | assumption | rfl) ?_
        | refine WC.cond rfl (fun hc => ?_) (fun hc => ?_)
        | refine WO.nil ?_
        | refine WO.cons ?_
        | refine WD.nil ?_
        | refine WD.cons0 ?_
        | refine WD.consH ?_
        | refine WD.consR ?_
        | refine W1.guard_y rfl (by first | assumption | rfl) ?_
        | refine W1.guard_n rfl (by first | assumption | rfl) ?_
        | refine W1.guard_u rfl ?_
        | refine W1.guard rfl (fun hc => ?_) (fun hc => ?_)
        | refine W1.pick_t rfl (by first | assumption | rfl) rfl ?_
        | refine W1.pick_f rfl (by first | assumption | rfl) rfl ?_
        | refine W1.mv rfl ?_
        | refine W1.nilck rfl ?_
        | refine W1.fa rfl ?_
        | refine W1.ext rfl rfl ?_
        | refine W1.fldS rfl rfl ?_
        | refine W1.fldA rfl (by decide) ?_
        | refine W1.mkfn rfl rfl ?_
        | refine W1.lss rfl rfl ?_
        | refine W1.leq rfl rfl ?_
        | refine W1.gtr rfl rfl ?_
        | refine W1.geq rfl rfl ?_
        | refine W1.eql rfl rfl ?_
        | refine W1.neq rfl rfl ?_
        | refine W1.not rfl ?_
        | refine W1.lenc ?_
        | refine W1.lenS rfl ?_
        | refine W1.bld rfl rfl ?_
        | refine W1.bldS rfl rfl rfl (fun bb => ?_)
        | refine W1.alloc rfl (fun bb => ?_)
        | refine W1.box rfl rfl (fun bb => ?_)
        | refine Exists.intro _ (And.intro Res.nil ?_)
        | refine Exists.intro _ (And.intro (Res.tmp rfl Res.nil) ?_)
        | refine Exists.intro _ (And.intro (Res.tmp rfl (Res.tmp rfl Res.nil)) ?_)
        | refine Exists.intro _ (And.intro (Res.tmp rfl (Res.tmp rfl (Res.tmp rfl Res.nil))) ?_)
        | refine W1.st rfl rfl rfl rfl .here (by decide) ?_
        | refine W1.ldS rfl .here rfl (conjR (ReC.ldS rfl rfl .here rfl) (by simp) ?_)
        | refine W1.ldS rfl .here rfl ?_
      all_goals first
        | exact ⟨rfl, _, rfl⟩
        | exact ⟨(i + 1, _), _, by first | omega | (simp only; omega), by repeat (first | exact subL.nil _ | refine subL.cons rfl ?_), by repeat (first | exact Suf.refl | apply Suf.cons), by first | omega | (simp only; omega), by first | omega | (simp only; omega), rfl⟩
    · have hv0 : f c.toNat ≠ 0 := by simpa using ‹decide (f c.toNat = 0) = false›
      obtain ⟨nm, a1, a2, a3, hrow, _⟩ := ok.vrow (f c.toNat - 1).toNat (by omega)
      have hnv := val.nv
      repeat' first
        | refine W1.ldG rfl l0 ?_
        | refine W1.iaRow rfl rfl ok.hv.up (by omega) (by omega) (fun b o hrd => ?_)
        | refine W1.ldR rfl ((hrow ▸ hrd).at 1 rfl) ?_
        | refine WC.drop (M' := M) (by repeat (first | exact List.Sublist.refl _ | apply List.Sublist.cons)) (WC.ret ?_)
        | refine WC.seq ?_
        | refine WC.block ?_
        | refine WC.region ?_
        | refine WC.draw ?_
        | refine WC.scope ?_
        | refine WC.skip ?_
        | refine WC.exit ?_
        | refine WC.cond_t rfl (by first | assumption | rfl) ?_
        | refine WC.cond_f rfl (by first | assumption | rfl) ?_
        | refine WC.cond rfl (fun hc => ?_) (fun hc => ?_)
        | refine WO.nil ?_
        | refine WO.cons ?_
        | refine WD.nil ?_
        | refine WD.cons0 ?_
        | refine WD.consH ?_
        | refine WD.consR ?_
        | refine W1.guard_y rfl (by first | assumption | rfl) ?_
        | refine W1.guard_n rfl (by first | assumption | rfl) ?_
        | refine W1.guard_u rfl ?_
        | refine W1.guard rfl (fun hc => ?_) (fun hc => ?_)
        | refine W1.pick_t rfl (by first | assumption | rfl) rfl ?_
        | refine W1.pick_f rfl (by first | assumption | rfl) rfl ?_
        | refine W1.mv rfl ?_
        | refine W1.nilck rfl ?_
        | refine W1.fa rfl ?_
        | refine W1.ext rfl rfl ?_
        | refine W1.fldS rfl rfl ?_
        | refine W1.fldA rfl (by decide) ?_
        | refine W1.mkfn rfl rfl ?_
        | refine W1.lss rfl rfl ?_
        | refine W1.leq rfl rfl ?_
        | refine W1.gtr rfl rfl ?_
        | refine W1.geq rfl rfl ?_
        | refine W1.eql rfl rfl ?_
        | refine W1.neq rfl rfl ?_
        | refine W1.not rfl ?_
        | refine W1.lenc ?_
        | refine W1.lenS rfl ?_
        | refine W1.bld rfl rfl ?_
        | refine W1.bldS rfl rfl rfl (fun bb => ?_)
        | refine W1.alloc rfl (fun bb => ?_)
        | refine W1.box rfl rfl (fun bb => ?_)
        | refine Exists.intro _ (And.intro Res.nil ?_)
        | refine Exists.intro _ (And.intro (Res.tmp rfl Res.nil) ?_)
        | refine Exists.intro _ (And.intro (Res.tmp rfl (Res.tmp rfl Res.nil)) ?_)
        | refine Exists.intro _ (And.intro (Res.tmp rfl (Res.tmp rfl (Res.tmp rfl Res.nil))) ?_)
        | refine W1.add rfl rfl (by omega) (by omega) ?_
        | refine W1.sub rfl rfl (by omega) (by omega) ?_
      exact ⟨rfl, _, rfl⟩
end Go.Ax
end
section
namespace Go.Ax
open Go.Ax.Ir
attribute [local irreducible] W1 WO WC WD WF WV
theorem take_all {cs : List V} {n : Nat} (h : cs.length = n) : (cs.drop 0).take n = cs := by subst h; simp
theorem W1.ldAll {ft : FT FnR} {g : Gz} {L : Env} {M : Mem} {K : Env → Mem → Prop} {d n : Nat} {x : Opd} {b : Nat} {cs : List V} {a : BA} {M' : Mem} (hx : lkO L x = some (.ptr b 0)) (hm : At M b (Arr1 cs a) M') (hn : cs.length = n) (h : K ((d, .agg cs) :: L) M) : W1 ft g ⟨some d, .ld true n x, none⟩ L M K :=
  W1.ldA hx hm (by omega) (by rw [take_all hn]; exact h)
theorem ReC.ldAll {g : Gz} {L : Env} {M : Mem} {d n : Nat} {x : Opd} {gd : Option (Nat × Bool)} {b : Nat} {cs : List V} {a : BA} {M' : Mem} (hx : lkO L x = some (.ptr b 0)) (hd : lk L d = some (.agg cs)) (hm : At M b (Arr1 cs a) M') (hn : cs.length = n) : ReC g ⟨some d, .ld true n x, gd⟩ L M :=
  ReC.ldA hx (by rw [take_all hn]; exact hd) hm (by omega)
theorem PlOk.set {t : TrD} {p : List V} {f : Nat → Int} (h : PlOk t p f) {i : Nat} (hi : i < 6) {x : Int} (h0 : 0 ≤ x) (h1 : x ≤ t.nv) : PlOk t (splice p (0 + i * 1) [.int .i64 x]) (fun k => if k = i then x else f k) := by
  have hl : 0 + i * 1 + [V.int .i64 x].length ≤ p.length := by rw [h.1]; simp; omega
  refine ⟨by rw [splice_len hl]; exact h.1, fun k hk => ?_⟩
  rw [splice_get2 hl]
  by_cases hki : k = i
  · subst hki
    simp [h0, h1]
  · simp only [if_neg hki]
    have e : (if k < 0 + i * 1 then p[k]? else if k < 0 + i * 1 + [V.int .i64 x].length then [V.int .i64 x][k - (0 + i * 1)]? else p[k]?) = p[k]? := by
      split
      · rfl
      · split
        · simp at *; omega
        · rfl
    rw [e]
    exact h.2 k hk
theorem PlOk.zero {t : TrD} : PlOk t [.int .i64 0, .int .i64 0, .int .i64 0, .int .i64 0, .int .i64 0, .int .i64 0] (fun _ => 0) := by
  refine ⟨rfl, fun i hi => ?_⟩
  have : i = 0 ∨ i = 1 ∨ i = 2 ∨ i = 3 ∨ i = 4 ∨ i = 5 := by omega
  refine ⟨by rcases this with rfl | rfl | rfl | rfl | rfl | rfl <;> rfl, by show (0 : Int) ≤ 0; omega, by show (0 : Int) ≤ t.nv; omega⟩
def ir44b1 : ICode := cS2 (cS1 (cS2 (cS2 (cS2 ir44.code))))
def ir44b3 : ICode := cS2 (cS1 (cS2 (cS2 (cS2 (cS2 ir44.code)))))
theorem f44_fill {g : Gz} {M : Mem} {t : TrD} {sp : V} {np b2 b4 b5 : Nat} {pl : Nat → Int} {p : List V} {f : Nat → Int} {L : Env} {K : X → Env → Mem → Prop} {x y : Nat × BP} (hs : Slc g [] sp np 1 fun i _ => .int .i64 (pl i)) (hnp : np ≤ 6) (hpl : ∀ i, i < np → -1 ≤ pl i ∧ pl i ≤ (t.nv : Int) - 1) (hnv : t.nv ≤ 3) (hp : PlOk t p f)
    (hL : subL L [(1, sp), (2, .ptr b2 0), (4, .ptr b4 0), (5, .ptr b5 0), (36, sp), (37, .int .i64 np), (38, .int .i64 0)])
    (hn : ∀ L' p f, PlOk t p f → subL L' [(1, sp), (2, .ptr b2 0), (4, .ptr b4 0), (5, .ptr b5 0)] → K .normal L' (x :: y :: (b5, Arr1 p {}) :: M)) : WC tbl g none ir44b1 L (x :: y :: (b5, Arr1 p {}) :: M) K := by
  refine WC.block ?_
  refine WC.loopE (ι := Int) (fun i => (np - i).toNat) (fun i => [(1, sp), (2, .ptr b2 0), (4, .ptr b4 0), (5, .ptr b5 0), (36, sp), (37, .int .i64 np), (38, .int .i64 i)]) (fun i M' => 0 ≤ i ∧ i ≤ np ∧ ∃ p f, PlOk t p f ∧ M' = x :: y :: (b5, Arr1 p {}) :: M) ?_ 0 _ _ hL ⟨by omega, by omega, p, f, hp, rfl⟩
  rintro i M' ⟨h0, h1, p, f, hp, rfl⟩
  refine WC.seq (WC.region (WO.cons (W1.lss rfl rfl (WO.nil ?_))))
  refine WC.seq (WC.cond rfl (fun hlt => WC.skip ?_) (fun hge => WC.exit ?_))
  · have hlt' := of_decide_eq_true hlt
    have hi : i.toNat < np := by omega
    obtain ⟨q0, q1⟩ := hpl i.toNat hi
    have hl := hp.1
    repeat' first
      | refine W1.iaSlc rfl rfl hs.up h0 hlt' (fun bb oo hrd => ?_)
      | refine W1.ldR rfl (hrd 0 (by omega)) ?_
      | refine W1.iaa rfl rfl h0 (by omega) ?_
      | refine W1.st (v := .int .i64 (pl i.toNat + 1)) rfl rfl rfl rfl (.there (.there .here)) (by omega) ?_
      | refine WC.seq ?_
      | refine WC.block ?_
      | refine WC.region ?_
      | refine WO.nil ?_
      | refine WO.cons ?_
      | refine W1.mv rfl ?_
      | refine W1.add rfl rfl (by omega) (by omega) ?_
    exact ⟨i + 1, by omega, by repeat (first | exact subL.nil _ | refine subL.cons rfl ?_), by omega, by omega, _, _, hp.set (i := i.toNat) (x := pl i.toNat + 1) (by omega) (by omega) (by omega), rfl⟩
  · exact hn _ p f hp (by repeat (first | exact subL.nil _ | refine subL.cons rfl ?_))
theorem f44_see {g : Gz} {M : Mem} {t : TrD} {sp km : V} {np bT b2 b5 : Nat} {p : List V} {f : Nat → Int} {L : Env} {K : X → Env → Mem → Prop} {y : Nat × BP} (ok : TrOk g t) (val : TrVal t) (hnp : np ≤ t.nc) (hp : PlOk t p f)
    (hL : subL L [(1, sp), (2, .ptr b2 0), (4, .ptr bT 0), (5, .ptr b5 0), (48, sp), (49, .int .i64 np), (50, .int .i64 0)])
    (hr : ∀ L', lk L' 4 = some .nilptr → lk L' 5 = some (.ptr b5 0) → lk L' 6 = some (.int .i64 9) → K .ret L' ((bT, Arr1 (t.cells ++ [km]) {}) :: y :: (b5, Arr1 p {}) :: M))
    (hn : ∀ L', subL L' [(4, .ptr bT 0), (5, .ptr b5 0)] → K .normal L' ((bT, Arr1 (t.cells ++ [km]) {}) :: y :: (b5, Arr1 p {}) :: M)) : WC tbl g none ir44b3 L ((bT, Arr1 (t.cells ++ [km]) {}) :: y :: (b5, Arr1 p {}) :: M) K := by
  have hnc := val.nc
  have hp6 := hp.1
  have hsp : splice p 0 p = p := by simp [splice]
  have hsc : (V.agg p).cells.all V.scalar = true := hp.sc
  refine WC.block ?_
  refine WC.loopE (ι := Int) (fun i => (np - i).toNat) (fun i => [(1, sp), (2, .ptr b2 0), (4, .ptr bT 0), (5, .ptr b5 0), (48, sp), (49, .int .i64 np), (50, .int .i64 i)]) (fun i M' => 0 ≤ i ∧ i ≤ np ∧ M' = (bT, Arr1 (t.cells ++ [km]) {}) :: y :: (b5, Arr1 p {}) :: M) ?_ 0 _ _ hL ⟨by omega, by omega, rfl⟩
  rintro i M' ⟨h0, h1, rfl⟩
  refine WC.seq (WC.region (WO.cons (W1.lss rfl rfl (WO.nil ?_))))
  refine WC.seq (WC.cond rfl (fun hlt => WC.skip ?_) (fun hge => WC.exit ?_))
  · have hlt' := of_decide_eq_true hlt
    repeat' first
      | refine W1.ldAll rfl (.there (.there .here)) hp6 (conjR (ReC.ldAll rfl rfl (.there (.there .here)) hp6) (by simp) ?_)
      | refine W1.ldAll rfl (.there (.there .here)) hp6 ?_
      | (refine W1.callV rfl rfl (WV.func (WF.freeze .here fun hb => (f59 (ok.lessG (Gz.le_add hb)) (Gz.add_eq _ _ _) val hp h0 (by omega)).mono fun v M' => ?_)); rintro ⟨rfl, tt, rfl⟩)
      | refine W1.st (v := .agg p) rfl rfl hp6 hsc (.there (.there .here)) (by omega) ?_
      | refine WC.ret ?_
      | refine WC.seq ?_
      | refine WC.block ?_
      | refine WC.region ?_
      | refine WC.draw ?_
      | refine WC.skip ?_
      | refine WC.cond rfl (fun hc => ?_) (fun hc => ?_)
      | refine WO.nil ?_
      | refine WO.cons ?_
      | refine WD.nil ?_
      | refine WD.cons0 ?_
      | refine WD.consH ?_
      | refine WD.consR ?_
      | refine W1.mv rfl ?_
      | refine W1.not rfl ?_
      | refine W1.add rfl rfl (by omega) (by omega) ?_
    · have := hr
      show K .ret _ ((bT, Arr1 (t.cells ++ [km]) {}) :: y :: (b5, Arr1 (splice p 0 p) {}) :: M)
      rw [hsp]
      exact hr _ rfl rfl rfl
    · exact ⟨i + 1, by omega, by repeat (first | exact subL.nil _ | refine subL.cons rfl ?_), by omega, by omega, rfl⟩
  · exact hn _ (by repeat (first | exact subL.nil _ | refine subL.cons rfl ?_))
theorem Ints6 {t : TrD} {p : List V} {f : Nat → Int} (h : PlOk t p f) : Ints 6 (.agg p) := ⟨p, rfl, h.1, fun x hx => by
  obtain ⟨i, hi⟩ := List.getElem?_of_mem hx
  have hlt := (List.getElem?_eq_some_iff.1 hi).1
  rw [(h.2 i (by rw [← h.1]; exact hlt)).1] at hi
  exact ⟨f i, (Option.some.inj hi).symm⟩⟩
def Pre44 (M M' : Mem) (v : V) : Prop := ∃ z e, v = .tup [.nilptr, .agg z, .int .i64 e] ∧ e ≠ 0 ∧ M' = M
theorem perm_ok (x y z w : Nat × BP) (l : Mem) : (x :: y :: z :: w :: l).Perm ([z, w] ++ (x :: y :: l)) :=
  (List.Perm.cons x (perm_rot3 y z w l |>.trans (List.Perm.cons w (List.Perm.swap z y l)))).trans ((List.Perm.swap w x _).trans ((List.Perm.cons w (List.Perm.swap z x _)).trans (List.Perm.swap z w _)))
def Post44 (t : TrD) (np : Nat) (M : Mem) (v : V) (M' : Mem) : Prop := (∃ z e, v = .tup [.nilptr, .agg z, .int .i64 e] ∧ (z.length = 6 ∧ (V.agg z).cells.all V.scalar = true) ∧ e ≠ 0 ∧ M' = M) ∨
      (∃ bT bm p f, v = .tup [.ptr bT 0, .agg p, .int .i64 0] ∧ M' = (bT, Arr1 (t.cells ++ [.map bm]) {}) :: (bm, MapOf (Ints 6) (Ints 3)) :: M ∧ TrVal t ∧ PlOk t p f ∧ np = t.nc)
theorem rdB_all {cs : List V} {a : BA} {n : Nat} (h : cs.length = n) : ∀ blk, Arr1 cs a blk → rdB blk true 0 n = some (.agg cs) := by
  intro blk e
  rw [show blk = .arr cs a from e]
  simp only [rdB]
  rw [if_pos trivial, if_pos (by omega), take_all h]
theorem f44_tail {g : Gz} {M : Mem} {t : TrD} {sp : V} {np bT bm b2 b5 : Nat} {pl : Nat → Int} {L : Env} (ok : TrOk g t) (val : TrVal t) (hs : Slc g [] sp np 1 fun i _ => .int .i64 (pl i)) (hnp : np = t.nc) (hpl : ∀ i, i < np → -1 ≤ pl i ∧ pl i ≤ (t.nv : Int) - 1)
    (hL : subL L [(1, sp), (2, .ptr b2 0), (4, .ptr bT 0), (5, .ptr b5 0)]) :
    WC tbl g none (cS2 (cS2 (cS2 ir44.code))) L ((bT, Arr1 (t.cells ++ [.map bm]) {}) :: (bm, MapOf (Ints 6) (Ints 3)) :: (b5, Arr1 [.int .i64 0, .int .i64 0, .int .i64 0, .int .i64 0, .int .i64 0, .int .i64 0] {}) :: (b2, Arr1 t.cells {}) :: M)
      (retK g ir44.res fun v M' => ∃ M1 R, M'.Perm (R ++ M1) ∧ Post44 t np M v M1) := by
  have hnc := val.nc
  have hnv := val.nv
  refine WC.weak hL (WC.seq (WC.seq (WC.region (WO.cons (W1.mv rfl (WO.cons (W1.lenSlc rfl hs.up (WO.cons (W1.mv rfl (WO.nil ?_))))))))))
  change WC tbl g none ir44b1 _ ((bT, Arr1 (t.cells ++ [.map bm]) {}) :: (bm, MapOf (Ints 6) (Ints 3)) :: (b5, Arr1 [.int .i64 0, .int .i64 0, .int .i64 0, .int .i64 0, .int .i64 0, .int .i64 0] {}) :: (b2, Arr1 t.cells {}) :: M) _
  refine f44_fill (b2 := b2) (b4 := bT) (x := (bT, Arr1 (t.cells ++ [.map bm]) {})) (y := (bm, MapOf (Ints 6) (Ints 3))) (M := (b2, Arr1 t.cells {}) :: M) hs (by omega) hpl (by omega) PlOk.zero ?_ fun L1 p f hp hL1 => ?_
  · repeat (first | exact subL.nil _ | refine subL.cons rfl ?_)
  refine WC.weak hL1 (WC.seq (WC.seq (WC.region (WO.cons (W1.mv rfl (WO.cons (W1.lenSlc rfl hs.up (WO.cons (W1.mv rfl (WO.nil ?_))))))))))
  have hp6 := hp.1
  have hsp : splice p 0 p = p := by simp [splice]
  refine f44_see (sp := sp) (b2 := b2) (y := (bm, MapOf (Ints 6) (Ints 3))) (M := (b2, Arr1 t.cells {}) :: M) (np := np) ok val (by omega) hp ?_ (fun L2 e4 e5 e6 => ?_) fun L2 hL2 => WC.weak hL2 ?_
  · repeat (first | exact subL.nil _ | refine subL.cons rfl ?_)
  · refine ⟨_, Res.tmp e4 (Res.cell e5 (.there (.there .here)) (rdB_all hp6) (Res.tmp e6 Res.nil)), _, [_, _, _, _], List.Perm.refl _, Or.inl ⟨p, 9, rfl, ⟨hp6, hp.sc⟩, by decide, rfl⟩⟩
  · repeat' first
      | refine W1.ldAll rfl (.there (.there .here)) hp6 (conjR (ReC.ldAll rfl rfl (.there (.there .here)) hp6) (by simp) ?_)
      | refine W1.st (v := .agg p) rfl rfl hp6 hp.sc (.there (.there .here)) (by omega) ?_
      | refine WC.ret ?_
      | refine WC.seq ?_
      | refine WC.draw ?_
      | refine WD.nil ?_
      | refine WD.cons0 ?_
      | refine WD.consH ?_
      | refine WD.consR ?_
      | refine W1.mv rfl ?_
    show retK g ir44.res _ .ret _ ((bT, Arr1 (t.cells ++ [.map bm]) {}) :: (bm, MapOf (Ints 6) (Ints 3)) :: (b5, Arr1 (splice p 0 p) {}) :: (b2, Arr1 t.cells {}) :: M)
    rw [hsp]
    exact ⟨_, Res.tmp rfl (Res.cell rfl (.there (.there .here)) (rdB_all hp6) (Res.tmp rfl Res.nil)), _, _, perm_ok _ _ _ _ _, Or.inr ⟨bT, bm, p, f, rfl, rfl, val, hp, hnp⟩⟩
set_option maxHeartbeats 2000000 in
theorem f44 {g : Gz} {M : Mem} {t : TrD} {sp : V} {np : Nat} {pl : Nat → Int} (ok : TrOk g t) (hs : Slc g [] sp np 1 fun i _ => .int .i64 (pl i)) (hnp : np ≤ 1000000000) :
    WF tbl g 44 [.agg t.cells, sp] M (Post44 t np M) := by
  have hnc := ok.nc
  have hnv := ok.nv
  refine WF.trim (WF.intro rfl (Nat.le_of_ble_eq_true rfl) ?_)
  repeat' first
    | refine W1.box rfl ok.sc5 (fun b2 => ?_)
    | (refine W1.callV rfl rfl (WV.func ((f55 ok).mono fun v M' => ?_)); rintro (⟨e, he, rfl, rfl⟩ | ⟨bT, bm, rfl, rfl, hv⟩))
    | (refine W1.callV rfl rfl (WV.func ((f40 hs.up (by omega)).mono fun v M' => ?_)); rintro ⟨rfl, tt, rfl, ht⟩)
    | refine W1.ldAll rfl .here (by rfl) (conjR (ReC.ldAll rfl rfl .here (by rfl)) (by simp) ?_)
    | refine W1.ldAll rfl (.there (.there .here)) (by rfl) (conjR (ReC.ldAll rfl rfl (.there (.there .here)) (by rfl)) (by simp) ?_)
    | refine W1.ldAll rfl (.there .here) (by rfl) ?_
    | refine W1.lenSlc rfl hs.up ?_
    | refine W1.lenSlc rfl ok.hc.up.1 ?_
    | refine W1.lenSlc rfl ok.hv.up.1 ?_
    | refine W1.st (v := .agg [.int .i64 0, .int .i64 0, .int .i64 0, .int .i64 0, .int .i64 0, .int .i64 0]) rfl rfl rfl rfl .here (Nat.le_of_ble_eq_true rfl) ?_
    | refine W1.st (v := .agg [.int .i64 0, .int .i64 0, .int .i64 0, .int .i64 0, .int .i64 0, .int .i64 0]) rfl rfl rfl rfl (.there (.there .here)) (Nat.le_of_ble_eq_true rfl) ?_
    | refine WC.ret ?_
    | refine Exists.intro _ (And.intro (Res.tmp rfl (Res.cell rfl .here (rdB_all rfl) (Res.tmp rfl Res.nil))) ?_)
    | refine Exists.intro _ (And.intro (Res.tmp rfl (Res.cell rfl (.there (.there .here)) (rdB_all rfl) (Res.tmp rfl Res.nil))) ?_)
    | refine f44_tail (b2 := b2) ok hv hs ?_ ?_ ?_
    | refine WC.seq ?_
    | refine WC.block ?_
    | refine WC.region ?_
    | refine WC.draw ?_
    | refine WC.skip ?_
    | refine WC.cond_f rfl (by first | assumption | rfl) ?_
    | refine WC.cond rfl (fun hc => ?_) (fun hc => ?_)
    | refine WO.nil ?_
    | refine WO.cons ?_
    | refine WD.nil ?_
    | refine WD.cons0 ?_
    | refine WD.consH ?_
    | refine WD.consR ?_
    | refine W1.mv rfl ?_
    | refine W1.fa rfl ?_
    | refine W1.ext rfl rfl ?_
    | refine W1.neq rfl rfl ?_
    | refine W1.alloc rfl (fun bb => ?_)
    | refine W1.ldS rfl (.there .here) rfl ?_
    | refine W1.ldS rfl (.there (.there (.there .here))) rfl ?_
    | refine W1.sub rfl rfl (by omega) (by omega) ?_
  all_goals try exact ⟨_, [_, _], List.Perm.refl _, Or.inl ⟨_, _, rfl, ⟨rfl, rfl⟩, he, rfl⟩⟩
  all_goals try exact ⟨_, [_, _, _, _], List.Perm.refl _, Or.inl ⟨_, 3, rfl, ⟨rfl, rfl⟩, by decide, rfl⟩⟩
  all_goals try exact ⟨_, [_, _, _, _], List.Perm.refl _, Or.inl ⟨_, 4, rfl, ⟨rfl, rfl⟩, by decide, rfl⟩⟩
  all_goals try exact absurd (by simpa using ‹(!decide (e = 0)) = false›) he
  all_goals try
    (have h9 : (np : Int) = t.nc := by simpa using ‹(!decide ((np : Int) = t.nc)) = false›
     omega)
  all_goals try
    (intro i hi
     have h9 := ht (by assumption) i hi
     omega)
  all_goals repeat (first | exact subL.nil _ | refine subL.cons rfl ?_)
end Go.Ax
end
section
namespace Go.Ax
open Go.Ax.Ir
theorem IntL.set {cs : List V} (h : IntL cs) {o : Nat} {n : Int} : IntL (splice cs o [.int .i64 n]) := by
  intro v hv
  simp only [splice, List.mem_append] at hv
  rcases hv with (hv | hv) | hv
  · exact h v (List.mem_of_mem_take hv)
  · exact ⟨n, by simpa using hv⟩
  · exact h v (List.mem_of_mem_drop hv)
theorem IntL.get {cs : List V} (h : IntL cs) {i : Nat} (hi : i < cs.length) : ∃ n, cs[i]? = some (.int .i64 n) := by
  obtain ⟨n, hn⟩ := h _ (List.getElem_mem hi)
  exact ⟨n, by rw [List.getElem?_eq_getElem hi, hn]⟩
theorem rep_len (n : Nat) (v : V) : (rep n [v]).length = n := by simp [rep]
theorem rep_int (n : Nat) (q : Int) : IntL (rep n [.int .i64 q]) := by
  intro v hv
  simp only [rep, List.mem_flatten, List.mem_replicate] at hv
  obtain ⟨l, ⟨_, rfl⟩, hv⟩ := hv
  exact ⟨q, by simpa using hv⟩
theorem W1.slcToD {ft : FT FnR} {g : Gz} {L : Env} {M : Mem} {K : Env → Mem → Prop} {d n e : Nat} {x hi : Opd} {s : V} {row : Nat → List V} {k : IntKind} {a : Int} (hx : lkO L x = some s) (hh : lkO L hi = some (.int k a)) (hs : SlcR g [] s n e row) (h0 : 0 ≤ a) (h1 : a ≤ n)
    (h : ∀ s', SlcR g [] s' a.toNat e row → K ((d, s') :: L) M) : W1 ft g ⟨some d, .slc e x none (some hi) none, none⟩ L M K := by
  obtain ⟨hs, he, hl⟩ := hs
  rcases hs with ⟨rfl, rfl⟩ | ⟨b, o, cap, rfl, hc, hr⟩
  · obtain rfl : a = 0 := by omega
    exact W1.pure (v := .nilslice) rfl (fun τ hl => by simp [puO, slcF, bounds, lo?, hl.opd hx, hl.opd hh]) (h _ ⟨Or.inl ⟨rfl, rfl⟩, he, fun i hi => by simp at hi⟩)
  · have hl' : ∀ i, i < a.toNat → (row i).length = e := fun i hi => hl i (by omega)
    cases cap with
    | none =>
      refine W1.pure (v := .slice b o a.toNat none e) rfl (fun τ hl => ?_) (h _ ⟨Or.inr ⟨b, o, none, rfl, by simp, fun hp hsat => ?_⟩, he, hl'⟩)
      · simp [puO, slcF, bounds, lo?, hl.opd hx, hl.opd hh, h0, h1]
      · obtain ⟨cs, ba, k1, k2, k3⟩ := hr hp hsat
        exact ⟨cs, ba, k1, k2, fun i hi j hj => k3 i (by omega) j hj⟩
    | some c =>
      have hnc := hc c rfl
      refine W1.pure (v := .slice b o a.toNat (some c) e) rfl (fun τ hl => ?_) (h _ ⟨Or.inr ⟨b, o, some c, rfl, fun c' e' => by cases e'; omega, fun hp hsat => ?_⟩, he, hl'⟩)
      · have e0 : (if Nat.beq c 0 = true then o else o + 0 * e) = o := by split <;> omega
        simp [puO, slcF, bounds, lo?, hl.opd hx, hl.opd hh, h0, h1]
      · obtain ⟨cs, ba, k1, k2, k3⟩ := hr hp hsat
        exact ⟨cs, ba, k1, k2, fun i hi j hj => k3 i (by omega) j hj⟩
attribute [local irreducible] W1 WO WC WD WF WV
def ir45o : ICode := cS2 (cS1 (cS2 (cS2 ir45.code)))
def ir45c : ICode := cBl (cS1 (cS2 (cS2 (cBl (cBl ir45o)))))
def ir45i : ICode := cS2 (cS2 (cS2 (cS2 ir45c)))
def E45 (bT b4 b7 n : Nat) (v i : Int) (sc : V) (nc : Nat) : Env := [(0, .ptr bT 0), (2, .int .i64 v), (4, .ptr b4 0), (7, .slice b7 0 n (some n) 1), (23, sc), (24, .int .i64 nc), (25, .int .i64 i)]
set_option maxHeartbeats 1000000 in
theorem f45_in {g : Gz} {M : Mem} {t : TrD} {bT b4 b7 b9 n : Nat} {s' : V} {p cs : List V} {f : Nat → Int} {v i : Int} {nm : List UInt8} {a1 a2 a3 met : Int} {L : Env} {K : X → Env → Mem → Prop} (ok : TrOk g t) (val : TrVal t) (hp : PlOk t p f) (hi0 : 0 ≤ i) (hi1 : i ≤ t.nc)
    (hs : SlcR g [] s' i.toNat 4 t.crate) (hn : (n : Int) = t.stops) (hcs : cs.length = n) (hint : IntL cs)
    (hL : subL L (E45 bT b4 b7 n v i t.sc t.nc ++ [(8, .int .i64 i), (9, .ptr b9 0), (10, .int .i64 met), (42, s'), (43, .int .i64 i), (44, .int .i64 0)]))
    (hk : ∀ L' M' cs', cs'.length = n → IntL cs' → Suf ((b9, Arr1 [.str nm, .int .i64 a1, .int .i64 a2, .int .i64 a3] {}) :: (b7, Arr1 cs' {}) :: (b4, Arr1 p {}) :: M) M' → subL L' (E45 bT b4 b7 n v i t.sc t.nc) → K .normal L' M') :
    WC tbl g none ir45i L ((b9, Arr1 [.str nm, .int .i64 a1, .int .i64 a2, .int .i64 a3] {}) :: (b7, Arr1 cs {}) :: (b4, Arr1 p {}) :: M) K := by
  have hnc := val.nc
  refine WC.block ?_
  refine WC.loopS (ι := Int × Int) (fun x => (i - x.1).toNat) (fun x => E45 bT b4 b7 n v i t.sc t.nc ++ [(8, .int .i64 i), (9, .ptr b9 0), (10, .int .i64 x.2), (42, s'), (43, .int .i64 i), (44, .int .i64 x.1)])
    (fun x M' => 0 ≤ x.1 ∧ x.1 ≤ i ∧ ∃ cs, cs.length = n ∧ IntL cs ∧ M' = ((b9, Arr1 [.str nm, .int .i64 a1, .int .i64 a2, .int .i64 a3] {}) :: (b7, Arr1 cs {}) :: (b4, Arr1 p {}) :: M)) ?_ (0, met) _ _ hL ⟨by omega, by omega, cs, hcs, hint, rfl⟩
  rintro ⟨k, mt⟩ M' ⟨h0, h1, cs, hcs, hint, rfl⟩
  dsimp only at h0 h1 ⊢
  have hii : ((i.toNat : Nat) : Int) = i := by omega
  refine WC.seq (WC.region (WO.cons (W1.lss rfl rfl (WO.nil ?_))))
  refine WC.seq (WC.cond rfl (fun hlt => WC.skip ?_) (fun hge => WC.exit ?_))
  · have hlt' := of_decide_eq_true hlt
    obtain ⟨nm2, d1, d2, d3, hrow, hd0, hd1⟩ := val.crate k.toNat (by omega)
    obtain ⟨hpk, _, _⟩ := hp.2 k.toNat (by omega)
    have hpk' : p[0 + k.toNat * 1]? = some (.int .i64 (f k.toNat)) := by simpa using hpk
    obtain ⟨q, hq⟩ := hint.get (i := d2.toNat) (by omega)
    have hq' : cs[0 + d2.toNat * 1]? = some (.int .i64 q) := by simpa using hq
    refine WC.seq (WC.block ?_)
    repeat' first
      | refine W1.iaRow rfl rfl hs.up h0 (by omega) (fun b o hrd => ?_)
      | refine W1.ldV (vs := [.str nm2, .int .i64 d1, .int .i64 d2, .int .i64 d3]) rfl rfl (hrow ▸ hrd) ?_
      | refine W1.iaa rfl rfl (by omega) (by omega) ?_
      | refine W1.ldS rfl (.there (.there (.there .here))) hpk' ?_
      | refine W1.ldS rfl (.there (.there .here)) hq' ?_
      | refine W1.ia rfl rfl hd0 (by omega) ?_
      | refine W1.shrU rfl rfl hd0 (fun z => ?_)
      | refine W1.shlU rfl rfl hd0 (fun z => ?_)
      | refine W1.andU rfl rfl (fun z => ?_)
      | refine W1.orU rfl rfl (fun z => ?_)
      | refine W1.st (v := .agg [.str nm2, .int .i64 d1, .int .i64 d2, .int .i64 d3]) rfl rfl rfl rfl .here (Nat.le_of_ble_eq_true rfl) ?_
      | refine W1.st rfl rfl rfl rfl (.there (.there .here)) (by omega) ?_
      | refine WC.seq ?_
      | refine WC.region ?_
      | refine WC.skip ?_
      | refine WC.cond_f rfl (by first | assumption | rfl) ?_
      | refine WC.cond rfl (fun hc => ?_) (fun hc => ?_)
      | refine WO.nil ?_
      | refine WO.cons ?_
      | refine W1.guard_y rfl (by first | assumption | rfl) ?_
      | refine W1.guard_n rfl (by first | assumption | rfl) ?_
      | refine W1.guard rfl (fun hc => ?_) (fun hc => ?_)
      | refine W1.pick_t rfl (by first | assumption | rfl) rfl ?_
      | refine W1.pick_f rfl (by first | assumption | rfl) rfl ?_
      | refine W1.mv rfl ?_
      | refine W1.fa rfl ?_
      | refine W1.lss rfl rfl ?_
      | refine W1.eql rfl rfl ?_
      | refine W1.alloc rfl (fun bb => ?_)
      | refine W1.ldS rfl .here rfl ?_
      | refine W1.ldS rfl (.there .here) rfl ?_
      | refine W1.add rfl rfl (by omega) (by omega) ?_
      | refine W1.addU rfl rfl (fun z => ?_)
    all_goals exact ⟨(k + 1, _), _, by first | omega | (simp only; omega), by repeat (first | exact subL.nil _ | refine subL.cons rfl ?_), Suf.cons Suf.refl, by first | omega | (simp only; omega), by first | omega | (simp only; omega), _, by first | exact hcs | exact (splice_len (by show 0 + d2.toNat * 1 + 1 ≤ cs.length; omega)).trans hcs, by first | exact hint | exact hint.set, rfl⟩
  · exact hk _ _ cs hcs hint .refl (by repeat (first | exact subL.nil _ | refine subL.cons rfl ?_))
set_option maxHeartbeats 1000000 in
theorem f45 {g : Gz} {M : Mem} {t : TrD} {bT : Nat} {km : V} {p : List V} {f : Nat → Int} {v : Int} (ok : TrOk g t) (hT : g bT = some (.arr (t.cells ++ [km]) {})) (val : TrVal t) (hp : PlOk t p f) :
    WF tbl g 45 [.ptr bT 0, .agg p, .int .i64 v] M fun r M' => ∃ b cs, r = .slice b 0 cs.length (some cs.length) 1 ∧ (cs.length : Int) = t.stops ∧ IntL cs ∧ M' = (b, Arr1 cs {}) :: M := by
  have hnc := val.nc
  have hst := val.stops
  have l1 : rdAgg g false bT 1 1 = some (.int .i64 t.stops) := by simp [rdAgg, hT, TrD.cells]
  have l3 : rdAgg g false bT 3 1 = some t.sc := by simp [rdAgg, hT, TrD.cells]
  have hlim : limit = 35184372088832 := rfl
  refine WF.trim (WF.intro rfl (Nat.le_of_ble_eq_true rfl) ?_)
  repeat' first
    | refine W1.box rfl hp.sc (fun b4 => ?_)
    | refine W1.ldG rfl l1 ?_
    | refine W1.ldG rfl l3 ?_
    | refine W1.mksl rfl rfl (by omega) (by omega) (by omega) (by omega) rfl (fun b7 => ?_)
    | refine W1.lenSlc rfl ok.hc.up.1 ?_
    | refine WC.block (WC.loopS (ι := Int) (fun i => (t.nc - i).toNat) (fun i => E45 bT b4 b7 t.stops.toNat v i t.sc t.nc) (fun i M' => 0 ≤ i ∧ i ≤ t.nc ∧ ∃ cs, cs.length = t.stops.toNat ∧ IntL cs ∧ M' = (b7, Arr1 cs {}) :: (b4, Arr1 p {}) :: M) ?_ 0 _ _ ?_ ⟨by omega, by omega, _, rep_len _ _, rep_int _ _, rfl⟩)
    | refine WC.seq ?_
    | refine WC.region ?_
    | refine WO.nil ?_
    | refine WO.cons ?_
    | refine W1.mv rfl ?_
    | refine W1.nilck rfl ?_
    | refine W1.fa rfl ?_
  · rintro i M' ⟨h0, h1, cs, hcs, hint, rfl⟩
    refine WC.seq (WC.region (WO.cons (W1.lss rfl rfl (WO.nil ?_))))
    refine WC.seq (WC.cond rfl (fun hlt => WC.skip ?_) (fun hge => WC.exit ?_))
    · have hlt' := of_decide_eq_true hlt
      obtain ⟨nm, a1, a2, a3, hrow, hd0, hd1⟩ := val.crate i.toNat (by omega)
      obtain ⟨hpi, _, _⟩ := hp.2 i.toNat (by omega)
      have hpi' : p[0 + i.toNat * 1]? = some (.int .i64 (f i.toNat)) := by simpa using hpi
      refine WC.seq (WC.block ?_)
      repeat' first
        | refine f45_in (n := t.stops.toNat) (bT := bT) (v := v) (nm := nm) (a1 := a1) (a2 := a2) (a3 := a3) (b9 := bb) (met := 0) ok val hp h0 (by omega) hs' (by omega) hcs hint ?_ (fun L' M' cs' q1 q2 q3 q4 => WC.weak q4 ?_)
        | refine W1.ldG rfl l3 ?_
        | refine W1.iaRow rfl rfl ok.hc.up h0 (by omega) (fun b o hrd => ?_)
        | refine W1.ldV (vs := [.str nm, .int .i64 a1, .int .i64 a2, .int .i64 a3]) rfl rfl (hrow ▸ hrd) ?_
        | refine W1.iaa rfl rfl (by omega) (by omega) ?_
        | refine W1.ldS rfl (.there (.there .here)) hpi' ?_
        | refine W1.slcToD rfl rfl ok.hc h0 (by omega) (fun s' hs' => ?_)
        | refine W1.lenSlc rfl hs'.up.1 ?_
        | refine W1.st (v := .agg [.str nm, .int .i64 a1, .int .i64 a2, .int .i64 a3]) rfl rfl rfl rfl .here (Nat.le_of_ble_eq_true rfl) ?_
        | refine WC.seq ?_
        | refine WC.region ?_
        | refine WC.skip ?_
        | refine WC.exit ?_
        | refine WC.cond rfl (fun hc => ?_) (fun hc => ?_)
        | refine WO.nil ?_
        | refine WO.cons ?_
        | refine W1.mv rfl ?_
        | refine W1.nilck rfl ?_
        | refine W1.fa rfl ?_
        | refine W1.neq rfl rfl ?_
        | refine W1.alloc rfl (fun bb => ?_)
        | refine W1.add rfl rfl (by omega) (by omega) ?_
        | refine W1.addU rfl rfl (fun z => ?_)
      · exact ⟨i + 1, _, by omega, by repeat (first | exact subL.nil _ | refine subL.cons rfl ?_), Suf.cons Suf.refl, by omega, by omega, cs, hcs, hint, rfl⟩
      · have e1 : ((i.toNat : Nat) : Int) = i := by omega
        rw [← e1]
        repeat (first | exact subL.nil _ | refine subL.cons rfl ?_)
      · exact ⟨i + 1, _, by omega, by repeat (first | exact subL.nil _ | refine subL.cons rfl ?_), (Suf.cons Suf.refl).trans q3, by omega, by omega, cs', q1, q2, rfl⟩
    · repeat' first
        | refine WC.seq ?_
        | refine WC.region ?_
        | refine WO.nil ?_
        | refine WO.cons ?_
        | refine W1.mv rfl ?_
        | refine Exists.intro _ (And.intro (Res.tmp rfl Res.nil) ?_)
        | refine WC.ret ?_
      exact ⟨_, [_], List.Perm.swap _ _ _, b7, cs, by rw [hcs]; rfl, by omega, hint, rfl⟩
  · repeat (first | exact subL.nil _ | refine subL.cons rfl ?_)
end Go.Ax
end
section
namespace Go.Ax
open Go.Ax.Ir
theorem WC.loopT {ft : FT FnR} {g : Gz} {cur : Option Nat} {b : ICode} {K : X → Env → Mem → Prop} {ι : Type} (m : ι → Nat) (E : ι → Env) (J : ι → Mem → Prop)
    (h : ∀ x M, J x M → WC ft g cur b (E x) M (thenC (fun L' M' => ∃ y M1 R, m y < m x ∧ subL L' (E y) ∧ M'.Perm (R ++ M1) ∧ J y M1) K)) (x : ι) (L : Env) (M : Mem) (h1 : subL L (E x)) (h2 : J x M) : WC ft g cur (.loop b) L M K := by
  refine WC.loop (fun k L M => ∃ x M1 R, k = m x ∧ subL L (E x) ∧ M.Perm (R ++ M1) ∧ J x M1) ?_ (m x) L M ⟨x, M, [], rfl, h1, List.Perm.refl _, h2⟩
  rintro k L M ⟨x, M1, R, rfl, h1, hs, h2⟩
  refine WC.permM hs (WC.drop (List.sublist_append_right _ _) (WC.weak h1 (WC.mono (h x M1 h2) fun y L' M' => ?_)))
  cases y with
  | normal => rintro ⟨z, M2, R2, h3, h4, h5, h6⟩; exact ⟨m z, h3, z, M2, R2, rfl, h4, h5, h6⟩
  | _ => exact fun h => h
theorem IntL2 (a b : Int) : IntL [.int .i64 a, .int .i64 b] := fun v hv => by
  rcases List.mem_cons.1 hv with rfl | hv
  · exact ⟨a, rfl⟩
  · exact ⟨b, by simpa using hv⟩
attribute [local irreducible] W1 WO WC WD WF WV
def ir49o : ICode := cS2 (cS1 (cS2 (cS2 (cS2 ir49.code))))
def B49 (b7 b33 b4 : Nat) (lo hi : Int) (tw p : List V) (M : Mem) : Mem := (b7, Arr1 [.int .i64 lo, .int .i64 hi] {}) :: (b33, Arr1 tw {}) :: (b4, Arr1 p {}) :: M
def J49 (b7 b33 b4 n : Nat) (tw p : List V) (M : Mem) (x : Nat × V) (M' : Mem) : Prop := x.1 ≤ n ∧ ∃ lo hi, (x.1 = 0 ∧ x.2 = .nilslice ∧ M' = B49 b7 b33 b4 lo hi tw p M) ∨
  (∃ b8 cs, x.2 = .slice b8 0 x.1 none 2 ∧ cs.length = x.1 * 2 ∧ IntL cs ∧ x.1 ≠ 0 ∧ M' = (b8, Arr1 cs {}) :: B49 b7 b33 b4 lo hi tw p M)
set_option maxHeartbeats 2000000 in
theorem f49_loop {g : Gz} {M : Mem} {t : TrD} {bT b7 b33 b4 n : Nat} {km : V} {p tw : List V} {v : Int} {L : Env} {K : X → Env → Mem → Prop} {lo hi : Int} (ok : TrOk g t) (hT : g bT = some (.arr (t.cells ++ [km]) {})) (val : TrVal t) (hv0 : 0 ≤ v) (hv1 : v < t.nv)
    (hn : (n : Int) = t.stops) (htw : tw.length = n) (hint : IntL tw)
    (hL : subL L [(0, .ptr bT 0), (2, .int .i64 v), (7, .ptr b7 0), (8, .nilslice), (33, .slice b33 0 n (some n) 1), (34, .int .i64 n), (35, .int .i64 0)])
    (hk : ∀ L' b8 cs lo hi, cs.length = n * 2 → IntL cs → lk L' 8 = some (.slice b8 0 n none 2) → K .normal L' ((b8, Arr1 cs {}) :: B49 b7 b33 b4 lo hi tw p M)) :
    WC tbl g none ir49o L (B49 b7 b33 b4 lo hi tw p M) K := by
  have hst := val.stops
  have hnv := val.nv
  have l0 : rdAgg g false bT 0 1 = some t.sv := by simp [rdAgg, hT, TrD.cells]
  have l2 : rdAgg g false bT 2 1 = some (.int .i64 t.handle) := by simp [rdAgg, hT, TrD.cells]
  obtain ⟨nm, r1, r2, lv, hrow, _, hlv, _⟩ := ok.vrow v.toNat (by omega)
  obtain ⟨hnl, hleg⟩ := val.van v.toNat (by omega)
  refine WC.block ?_
  refine WC.loopT (ι := Nat × V) (fun x => n - x.1) (fun x => [(0, .ptr bT 0), (2, .int .i64 v), (7, .ptr b7 0), (8, x.2), (33, .slice b33 0 n (some n) 1), (34, .int .i64 n), (35, .int .i64 x.1)]) (J49 b7 b33 b4 n tw p M) ?_ (0, .nilslice) _ _ hL ⟨Nat.zero_le _, lo, hi, Or.inl ⟨rfl, rfl, rfl⟩⟩
  rintro ⟨i, s8⟩ M' ⟨h1, lo, hi, hJ⟩
  dsimp only at h1 hJ ⊢
  by_cases hlt : (i : Int) < n
  · have hdec : decide ((i : Int) < n) = true := decide_eq_true hlt
    obtain ⟨q, hq⟩ := hint.get (i := i) (by omega)
    have hq' : tw[0 + ((i : Nat) : Int).toNat * 1]? = some (.int .i64 q) := by simpa using hq
    obtain ⟨la, lb, hl, _⟩ := hleg i (by omega)
    have hl' : t.leg v.toNat ((i : Nat) : Int).toNat = [.int .i64 la, .int .i64 lb] := by simpa using hl
    rcases hJ with ⟨rfl, rfl, rfl⟩ | ⟨b8, cs, rfl, hcs, hci, hne, rfl⟩
    · unfold B49
      repeat' first
        | refine WC.cond_t rfl hdec ?_
        | refine W1.ldG rfl l0 (conjR (ReC.ldG rfl rfl l0) (by simp) ?_)
        | refine W1.ldG rfl l2 (conjR (ReC.ldG rfl rfl l2) (by simp) ?_)
        | refine W1.iaRow rfl rfl ok.hv.up hv0 hv1 (fun b o hrd => ?_)
        | refine W1.ldR rfl ((hrow ▸ hrd).at 3 rfl) (conjR (ReC.ldR rfl rfl ((hrow ▸ hrd).at 3 rfl)) (by simp) ?_)
        | refine W1.iaRow rfl rfl hlv.up (by omega) (by omega) (fun b2 o2 hrd2 => ?_)
        | refine W1.ldR rfl ((hl' ▸ hrd2).at 0 rfl) (conjR (ReC.ldR rfl rfl ((hl' ▸ hrd2).at 0 rfl)) (by simp) ?_)
        | refine W1.ldR rfl ((hl' ▸ hrd2).at 1 rfl) (conjR (ReC.ldR rfl rfl ((hl' ▸ hrd2).at 1 rfl)) (by simp) ?_)
        | refine W1.ia rfl rfl (by omega) hlt ?_
        | refine W1.ldS rfl (.there .here) hq' ?_
        | refine W1.ldAll rfl .here rfl ?_
        | refine W1.appN (n := 1) rfl rfl (Src.row .here (Nat.le_of_ble_eq_true rfl)) (by decide) (by decide) (fun b' => ?_)
        | refine WC.seq ?_
        | refine WC.block ?_
        | refine WC.region ?_
        | refine WC.draw ?_
        | refine WC.skip ?_
        | refine WO.nil ?_
        | refine WO.cons ?_
        | refine WD.nil ?_
        | refine WD.cons0 ?_
        | refine WD.consH ?_
        | refine WD.consR ?_
        | refine W1.mv rfl ?_
        | refine W1.nilck rfl ?_
        | refine W1.fa rfl ?_
        | refine W1.lss rfl rfl ?_
        | refine W1.bldS rfl rfl rfl (fun bb => ?_)
        | refine W1.ldS rfl .here rfl (conjR (ReC.ldS rfl rfl .here rfl) (by simp) ?_)
        | refine W1.ldS rfl (.there (.there .here)) rfl (conjR (ReC.ldS rfl rfl (.there (.there .here)) rfl) (by simp) ?_)
        | refine W1.st rfl rfl rfl rfl .here (Nat.le_of_ble_eq_true rfl) ?_
        | refine W1.st rfl rfl rfl rfl (.there (.there .here)) (Nat.le_of_ble_eq_true rfl) ?_
        | refine W1.add rfl rfl (by omega) (by omega) ?_
        | refine W1.addU rfl rfl (fun z => ?_)
        | refine W1.mulU rfl rfl (fun z => ?_)
      refine ⟨(0 + 1, _), _, [_], by simp only; omega, by repeat (first | exact subL.nil _ | refine subL.cons rfl ?_), List.Perm.swap _ _ _, by simp only; omega, _, _, Or.inr ⟨b', _, rfl, ?_, ?_, by simp only; omega, rfl⟩⟩
      · rfl
      · exact IntL2 _ _
    · unfold B49
      repeat' first
        | refine WC.cond_t rfl hdec ?_
        | refine W1.ldG rfl l0 (conjR (ReC.ldG rfl rfl l0) (by simp) ?_)
        | refine W1.ldG rfl l2 (conjR (ReC.ldG rfl rfl l2) (by simp) ?_)
        | refine W1.iaRow rfl rfl ok.hv.up hv0 hv1 (fun b o hrd => ?_)
        | refine W1.ldR rfl ((hrow ▸ hrd).at 3 rfl) (conjR (ReC.ldR rfl rfl ((hrow ▸ hrd).at 3 rfl)) (by simp) ?_)
        | refine W1.iaRow rfl rfl hlv.up (by omega) (by omega) (fun b2 o2 hrd2 => ?_)
        | refine W1.ldR rfl ((hl' ▸ hrd2).at 0 rfl) (conjR (ReC.ldR rfl rfl ((hl' ▸ hrd2).at 0 rfl)) (by simp) ?_)
        | refine W1.ldR rfl ((hl' ▸ hrd2).at 1 rfl) (conjR (ReC.ldR rfl rfl ((hl' ▸ hrd2).at 1 rfl)) (by simp) ?_)
        | refine W1.ia rfl rfl (by omega) hlt ?_
        | refine W1.ldS rfl (.there (.there .here)) hq' ?_
        | refine W1.ldAll rfl (.there .here) rfl ?_
        | refine W1.app (n := 1) rfl rfl (Src.row .here (Nat.le_of_ble_eq_true rfl)) (by decide) (.there .here) (by omega) (by show (i + 1) * 16 ≤ 35184372088832; omega) (fun b' => ?_)
        | refine WC.seq ?_
        | refine WC.block ?_
        | refine WC.region ?_
        | refine WC.draw ?_
        | refine WC.skip ?_
        | refine WO.nil ?_
        | refine WO.cons ?_
        | refine WD.nil ?_
        | refine WD.cons0 ?_
        | refine WD.consH ?_
        | refine WD.consR ?_
        | refine W1.mv rfl ?_
        | refine W1.nilck rfl ?_
        | refine W1.fa rfl ?_
        | refine W1.lss rfl rfl ?_
        | refine W1.bldS rfl rfl rfl (fun bb => ?_)
        | refine W1.ldS rfl (.there .here) rfl (conjR (ReC.ldS rfl rfl (.there .here) rfl) (by simp) ?_)
        | refine W1.ldS rfl (.there (.there .here)) rfl (conjR (ReC.ldS rfl rfl (.there (.there .here)) rfl) (by simp) ?_)
        | refine W1.st rfl rfl rfl rfl (.there .here) (Nat.le_of_ble_eq_true rfl) ?_
        | refine W1.st rfl rfl rfl rfl (.there (.there .here)) (Nat.le_of_ble_eq_true rfl) ?_
        | refine W1.add rfl rfl (by omega) (by omega) ?_
        | refine W1.addU rfl rfl (fun z => ?_)
        | refine W1.mulU rfl rfl (fun z => ?_)
      refine ⟨(i + 1, _), _, [_], by simp only; omega, by repeat (first | exact subL.nil _ | refine subL.cons rfl ?_), List.Perm.swap _ _ _, by simp only; omega, _, _, Or.inr ⟨b', _, rfl, ?_, ?_, by simp only; omega, rfl⟩⟩
      · have hX : ∀ X : List V, X.length = 2 → (cs.drop 0 ++ X).length = (i + 1) * 2 := by intro X hX; simp [hX, hcs]; omega
        exact hX _ rfl
      · exact IntL.app (by simpa using hci) (IntL2 _ _)
  · have hdec : decide ((i : Int) < n) = false := decide_eq_false hlt
    obtain rfl : i = n := by omega
    rcases hJ with ⟨rfl, _, _⟩ | ⟨b8, cs, rfl, hcs, hci, hne, rfl⟩
    · omega
    · repeat' first
        | refine WC.cond_f rfl hdec ?_
        | refine WC.seq ?_
        | refine WC.region ?_
        | refine WC.exit ?_
        | refine WO.nil ?_
        | refine WO.cons ?_
        | refine W1.lss rfl rfl ?_
      exact hk _ b8 cs lo hi hcs hci rfl
end Go.Ax
end
section
namespace Go.Ax
open Go.Ax.Ir
theorem two_ints {cs : List V} (h : IntL cs) {o : Nat} (hl : o + 2 ≤ cs.length) : ∃ x y, (cs.drop o).take 2 = [.int .i64 x, .int .i64 y] := by
  obtain ⟨x, hx⟩ := h.get (i := o) (by omega)
  obtain ⟨y, hy⟩ := h.get (i := o + 1) (by omega)
  refine ⟨x, y, List.ext_getElem? fun j => ?_⟩
  rw [List.getElem?_take]
  by_cases hj : j < 2
  · rw [if_pos hj, List.getElem?_drop]
    have : j = 0 ∨ j = 1 := by omega
    rcases this with rfl | rfl
    · simpa using hx
    · simpa using hy
  · rw [if_neg hj, List.getElem?_eq_none (by simp; omega)]
theorem W1.ldX {ft : FT FnR} {g : Gz} {L : Env} {M : Mem} {K : Env → Mem → Prop} {d n : Nat} {x : Opd} {b o : Nat} {cs vs : List V} {a : BA} {M' : Mem} (hx : lkO L x = some (.ptr b o)) (hm : At M b (Arr1 cs a) M') (hv : o + n ≤ cs.length) (he : (cs.drop o).take n = vs) (h : K ((d, .agg vs) :: L) M) : W1 ft g ⟨some d, .ld true n x, none⟩ L M K :=
  W1.ldA hx hm hv (by rw [he]; exact h)
theorem ReC.ldX {g : Gz} {L : Env} {M : Mem} {d n : Nat} {x : Opd} {gd : Option (Nat × Bool)} {b o : Nat} {cs vs : List V} {a : BA} {M' : Mem} (hx : lkO L x = some (.ptr b o)) (hd : lk L d = some (.agg vs)) (hm : At M b (Arr1 cs a) M') (hv : o + n ≤ cs.length) (he : (cs.drop o).take n = vs) : ReC g ⟨some d, .ld true n x, gd⟩ L M :=
  ReC.ldA hx (by rw [he]; exact hd) hm hv
attribute [local irreducible] W1 WO WC WD WF WV
theorem perm_4 (x a b c : Nat × BP) (l : Mem) : (x :: a :: b :: c :: l).Perm ([a, b, c] ++ (x :: l)) :=
  (List.Perm.swap a x _).trans (List.Perm.cons a ((List.Perm.swap b x _).trans (List.Perm.cons b (List.Perm.swap c x _))))
set_option maxHeartbeats 1000000 in
theorem f49 {g : Gz} {M : Mem} {t : TrD} {bT : Nat} {km : V} {p : List V} {f : Nat → Int} {v : Int} (ok : TrOk g t) (hT : g bT = some (.arr (t.cells ++ [km]) {})) (val : TrVal t) (hp : PlOk t p f) (hv0 : 0 ≤ v) (hv1 : v < t.nv) :
    WF tbl g 49 [.ptr bT 0, .agg p, .int .i64 v] M fun r M' => ∃ b cs, r = .slice b 0 t.stops.toNat none 2 ∧ cs.length = t.stops.toNat * 2 ∧ IntL cs ∧ M' = (b, Arr1 cs {}) :: M := by
  have hst := val.stops
  have l0 : rdAgg g false bT 0 1 = some t.sv := by simp [rdAgg, hT, TrD.cells]
  obtain ⟨nm, r1, r2, lv, hrow, _, hlv, _⟩ := ok.vrow v.toNat (by omega)
  refine WF.trim (WF.intro rfl (Nat.le_of_ble_eq_true rfl) ?_)
  repeat' first
    | refine W1.box rfl hp.sc (fun b4 => ?_)
    | refine W1.ldG rfl l0 (conjR (ReC.ldG rfl rfl l0) (by simp) ?_)
    | refine W1.iaRow rfl rfl ok.hv.up hv0 hv1 (fun b o hrd => ?_)
    | refine W1.ldR rfl ((hrow ▸ hrd).at 2 rfl) (conjR (ReC.ldR rfl rfl ((hrow ▸ hrd).at 2 rfl)) (by simp) ?_)
    | refine W1.ldAll rfl (.there .here) hp.1 ?_
    | (refine W1.callV rfl rfl (WV.func ((f45 ok hT val hp).mono fun v M' => ?_)); rintro ⟨b33, tw, rfl, hl, hi, rfl⟩)
    | refine W1.len rfl ?_
    | refine WC.permM (List.Perm.swap _ _ _) (f49_loop (n := tw.length) (b33 := b33) (tw := tw) (p := p) (b4 := b4) (M := M) ok hT val hv0 hv1 hl rfl hi ?_ (fun L' b8 cs lo hi q1 q2 q3 => ?_))
    | refine WC.seq ?_
    | refine WC.region ?_
    | refine WC.draw ?_
    | refine WO.nil ?_
    | refine WO.cons ?_
    | refine WD.nil ?_
    | refine WD.cons0 ?_
    | refine WD.consH ?_
    | refine WD.consR ?_
    | refine W1.mv rfl ?_
    | refine W1.nilck rfl ?_
    | refine W1.fa rfl ?_
    | refine W1.bld rfl rfl ?_
    | refine W1.alloc rfl (fun bb => ?_)
    | refine W1.st rfl rfl rfl rfl .here (Nat.le_of_ble_eq_true rfl) ?_
  · repeat (first | exact subL.nil _ | refine subL.cons rfl ?_)
  · refine W1.mv (show lkO L' (.t 8) = _ from q3) (WO.cons ?_)
    refine W1.mv rfl (WO.nil ?_)
    refine WC.ret ⟨_, Res.tmp rfl Res.nil, _, _, perm_4 _ _ _ _ _, b8, cs, ?_, by rw [q1]; congr 1; omega, q2, rfl⟩
    show V.slice b8 0 tw.length none 2 = _
    congr 1; omega
set_option maxHeartbeats 1000000 in
theorem f54 {g : Gz} {M : Mem} {t : TrD} {bT : Nat} {km : V} {p : List V} {f : Nat → Int} {c : Int} (ok : TrOk g t) (hT : g bT = some (.arr (t.cells ++ [km]) {})) (val : TrVal t) (hp : PlOk t p f) (hc0 : 0 ≤ c) (hc1 : c < t.nc) :
    WF tbl g 54 [.ptr bT 0, .agg p, .int .i64 c] M fun r M' => M' = M ∧ ∃ n, r = .int .i64 n := by
  have hst := val.stops
  have hnc := val.nc
  have hnv := val.nv
  have l3 : rdAgg g false bT 3 1 = some t.sc := by simp [rdAgg, hT, TrD.cells]
  obtain ⟨nm, a1, a2, a3, hrow, hd0, hd1⟩ := val.crate c.toNat (by omega)
  obtain ⟨hpc, hf0, hf1⟩ := hp.2 c.toNat (by omega)
  have hpc' : p[0 + c.toNat * 1]? = some (.int .i64 (f c.toNat)) := by simpa using hpc
  refine WF.trimS (WF.intro rfl (Nat.le_of_ble_eq_true rfl) ?_)
  repeat' first
    | refine W1.box rfl hp.sc (fun b4 => ?_)
    | refine W1.iaa rfl rfl (by omega) (by omega) ?_
    | refine W1.ldS rfl .here hpc' ?_
    | refine W1.ldS rfl (.there .here) hpc' (conjR (ReC.ldS rfl rfl (.there .here) hpc') (by simp) ?_)
    | refine W1.ldG rfl l3 ?_
    | refine W1.iaRow rfl rfl ok.hc.up hc0 hc1 (fun b o hrd => ?_)
    | refine W1.ldV (vs := [.str nm, .int .i64 a1, .int .i64 a2, .int .i64 a3]) rfl rfl (hrow ▸ hrd) ?_
    | (refine W1.callV rfl rfl (WV.func ((f49 ok hT val hp (v := f c.toNat - 1) (by have h9 := of_decide_eq_false ‹decide (f c.toNat = 0) = false›; omega) (by omega)).mono fun v M' => ?_)); rintro ⟨bs, cs, rfl, hl, hi, rfl⟩; obtain ⟨z1, z2, hz⟩ := two_ints hi (o := 0 + a2.toNat * 2) (by omega))
    | refine W1.ldS rfl (.there .here) rfl ⟨ReC.ldS rfl rfl (.there .here) rfl, fun k hk => ⟨_, List.mem_singleton.2 (Prod.ext (List.mem_singleton.1 hk) rfl), ReC.ldS rfl rfl .here rfl⟩, ?_⟩
    | refine W1.ia rfl rfl hd0 (by omega) ?_
    | refine W1.ldX rfl .here (by omega) hz (conjR (ReC.ldX rfl rfl .here (by omega) hz) (by simp) ?_)
    | refine W1.ldAll rfl (.there .here) hp.1 (conjR (ReC.ldAll rfl rfl (.there .here) hp.1) (by simp) ?_)
    | refine WC.ret ?_
    | refine WC.seq ?_
    | refine WC.block ?_
    | refine WC.region ?_
    | refine WC.draw ?_
    | refine WC.skip ?_
    | refine WC.cond rfl (fun hc => ?_) (fun hc => ?_)
    | refine WO.nil ?_
    | refine WO.cons ?_
    | refine WD.nil ?_
    | refine WD.cons0 ?_
    | refine WD.consH ?_
    | refine WD.consR ?_
    | refine W1.mv rfl ?_
    | refine W1.nilck rfl ?_
    | refine W1.fa rfl ?_
    | refine W1.leq rfl rfl ?_
    | refine W1.gtr rfl rfl ?_
    | refine W1.eql rfl rfl ?_
    | refine W1.alloc rfl (fun bb => ?_)
    | refine Exists.intro _ (And.intro (Res.tmp rfl Res.nil) ?_)
    | refine W1.st (v := .agg [.str nm, .int .i64 a1, .int .i64 a2, .int .i64 a3]) rfl rfl rfl rfl .here (Nat.le_of_ble_eq_true rfl) ?_
    | refine W1.st rfl rfl rfl rfl .here (Nat.le_of_ble_eq_true rfl) ?_
    | refine W1.sub rfl rfl (by omega) (by omega) ?_
    | refine W1.ldS rfl .here rfl ?_
    | refine W1.ldS rfl (.there (.there .here)) rfl ?_
  all_goals exact ⟨by repeat (first | exact Suf.refl | apply Suf.cons), _, rfl⟩
end Go.Ax
end
section
namespace Go.Ax
open Go.Ax.Ir
theorem catA_nil {α : Type} : ∀ n, catA (fun _ => ([] : List α)) n = []
  | 0 => rfl
  | n + 1 => by rw [catA, catA_nil n]; rfl
theorem ownRow_ints : ∀ {w : Nat} {vs : List V}, IntL vs → vs.length = w → OwnRow (List.replicate w .int) vs [] w
  | 0, vs, _, h => by simp only [List.replicate, OwnRow]; exact ⟨List.eq_nil_of_length_eq_zero h, trivial⟩
  | w + 1, v :: vs, hi, h => by
    simp only [List.replicate, OwnRow]
    refine ⟨v, vs, [], [], 1, w, rfl, ?_, ownRow_ints (fun x hx => hi x (List.mem_cons_of_mem _ hx)) (by simpa using h), rfl, by omega⟩
    simp only [OwnC]
    exact ⟨hi v (List.mem_cons_self ..), trivial, Nat.le_refl _⟩
theorem sumTo_const (w : Nat) : ∀ n, sumTo (fun _ => w) n = n * w
  | 0 => by simp [sumTo]
  | n + 1 => by simp only [sumTo]; rw [sumTo_const w n, Nat.succ_mul]
theorem OwnC.ints {w n b : Nat} {cap : Option Nat} {cs : List V} (hw : w ≠ 0) (hl : cs.length = n * w) (hi : IntL cs) (hn : n ≤ 1099511627776) (hc : ∀ c, cap = some c → n ≤ c) :
    OwnC (.sl (List.replicate w .int)) (.slice b 0 n cap w) [(b, cs)] (n * w + 1) := by
  simp only [OwnC]
  have hnw : n ≤ n * w := Nat.le_mul_of_pos_right n (by omega)
  refine ⟨n, cs, fun i => (cs.drop (i * w)).take w, fun _ => [], fun _ => w, fun i h => ownRow_ints ?_ ?_, by simpa using hw, hn, by omega, by rw [sumTo_const]; omega, Or.inr ⟨b, 0, cap, by simp, hc, ?_, by rw [catA_nil]⟩⟩
  · exact fun v hv => hi v (List.mem_of_mem_drop (List.mem_of_mem_take hv))
  · have h9 : (i + 1) * w ≤ n * w := Nat.mul_le_mul_right w (by omega)
    rw [Nat.succ_mul] at h9
    simp; omega
  · intro i _ j hj
    rw [List.length_replicate] at hj ⊢
    rw [List.getElem?_take, if_pos hj, List.getElem?_drop]
    congr 1; omega
theorem OwnC.nil {row : List Ty} (h : row.length ≠ 0) : OwnC (.sl row) .nilslice [] 1 := by
  simp only [OwnC]
  exact ⟨0, [], fun _ => [], fun _ => [], fun _ => 0, fun i h => by omega, h, by omega, by omega, by simp [sumTo], Or.inl ⟨trivial, rfl, trivial⟩⟩
def PostL (w : Nat) (M : Mem) (v : V) (M' : Mem) : Prop := ∃ s R k e, v = .tup [s, .int .i64 e] ∧ OwnC (.sl (List.replicate w .int)) s R k ∧ k ≤ 1000 ∧ M' = toM R ++ M
abbrev Z6 : List V := [.int .i64 0, .int .i64 0, .int .i64 0, .int .i64 0, .int .i64 0, .int .i64 0]
theorem splZ {p : List V} (h : p.length = 6) : splice Z6 0 p = p := by
  simp [splice, h]
theorem W1.stZ {ft : FT FnR} {g : Gz} {L : Env} {M : Mem} {K : Env → Mem → Prop} {a x : Opd} {b : Nat} {p : List V} {M' : Mem} (ha : lkO L a = some (.ptr b 0)) (hx : lkO L x = some (.agg p)) (hn : p.length = 6) (hsc : (V.agg p).cells.all V.scalar = true) (hu : Up M b (Arr1 Z6 {}) (Arr1 p {}) M') (h : K L M') : W1 ft g ⟨none, .st 6 a x, none⟩ L M K :=
  W1.st ha hx hn hsc (by rw [show (V.agg p).cells = p from rfl, splZ hn]; exact hu) (Nat.le_refl _) h
attribute [local irreducible] W1 WO WC WD WF WV
theorem perm_a (y x a b c d : Nat × BP) (l : Mem) : (y :: x :: a :: b :: c :: d :: l).Perm ([y, a, b, c, d] ++ (x :: l)) :=
  List.Perm.cons y (List.perm_middle (a := x) (l₁ := [a, b, c, d]) (l₂ := l)).symm
set_option maxHeartbeats 1000000 in
theorem f12 {g : Gz} {M : Mem} {t : TrD} {sp : V} {np : Nat} {pl : Nat → Int} {v : Int} (ok : TrOk g t) (hs : Slc g [] sp np 1 fun i _ => .int .i64 (pl i)) (hnp : np ≤ 1000000000) :
    WF tbl g 12 [.agg t.cells, sp, .int .i64 v] M (PostL 1 M) := by
  have hnc := ok.nc
  have hnv := ok.nv
  refine WF.trim (WF.intro rfl (Nat.le_of_ble_eq_true rfl) ?_)
  repeat' first
    | refine W1.box rfl ok.sc5 (fun b2 => ?_)
    | (refine W1.callV rfl rfl (WV.func ((f44 ok hs hnp).mono fun v M' => ?_)); rintro (⟨z, e, rfl, ⟨hz1, hz2⟩, he, rfl⟩ | ⟨bT, bm, p, f, rfl, rfl, val, hp, hnp'⟩))
    | (refine W1.callV rfl rfl (WV.func ((f40one .here).mono fun v M' => ?_)); rintro ⟨rfl, tt, rfl, ht⟩)
    | (refine W1.callV rfl rfl (WV.func (WF.freeze (.there (.there .here)) fun hb => (f45 (ok.lessG (Gz.le_add hb)) (Gz.add_eq _ _ _) val hp).mono fun v M' => ?_)); rintro ⟨b33, tw, rfl, hl, hi, rfl⟩)
    | refine W1.stZ rfl rfl hz1 hz2 .here ?_
    | refine W1.stZ rfl rfl hp.1 hp.sc .here ?_
    | refine W1.ldAll rfl .here rfl ?_
    | refine W1.ldAll rfl (.there .here) hp.1 ?_
    | refine W1.lenSlc rfl ok.hv.up.1 ?_
    | refine WC.ret ?_
    | refine WC.seq ?_
    | refine WC.block ?_
    | refine WC.region ?_
    | refine WC.skip ?_
    | refine WC.cond_f rfl (by first | assumption | rfl) ?_
    | refine WC.cond rfl (fun hc => ?_) (fun hc => ?_)
    | refine WO.nil ?_
    | refine WO.cons ?_
    | refine W1.mv rfl ?_
    | refine W1.fa rfl ?_
    | refine W1.ext rfl rfl ?_
    | refine W1.neq rfl rfl ?_
    | refine W1.bldS rfl rfl rfl (fun bb => ?_)
    | refine W1.alloc rfl (fun bb => ?_)
    | refine Exists.intro _ (And.intro (Res.tmp rfl (Res.tmp rfl Res.nil)) ?_)
    | refine W1.ldS rfl (.there .here) rfl ?_
    | refine W1.ldS rfl (.there (.there (.there .here))) rfl ?_
    | refine W1.sub rfl rfl (by omega) (by omega) ?_
  all_goals try exact absurd (by simpa using ‹(!decide (e = 0)) = false›) he
  all_goals try exact ⟨M, [_, _], List.Perm.refl _, _, [], 1, _, rfl, OwnC.nil (by decide), by decide, rfl⟩
  all_goals try exact ⟨M, [_, _, _, _, _], List.Perm.refl _, _, [], 1, _, rfl, OwnC.nil (by decide), by decide, rfl⟩
  have hst := val.stops
  refine ⟨_, _, perm_a _ _ _ _ _ _ _, _, [(b33, tw)], _, 0, rfl, OwnC.ints (by decide) (by omega) hi (by omega) (fun c e => ?_), by omega, rfl⟩
  cases e; omega
set_option maxHeartbeats 1000000 in
theorem f17 {g : Gz} {M : Mem} {t : TrD} {sp : V} {np : Nat} {pl : Nat → Int} {v : Int} (ok : TrOk g t) (hs : Slc g [] sp np 1 fun i _ => .int .i64 (pl i)) (hnp : np ≤ 1000000000) :
    WF tbl g 17 [.agg t.cells, sp, .int .i64 v] M (PostL 2 M) := by
  have hnc := ok.nc
  have hnv := ok.nv
  refine WF.trim (WF.intro rfl (Nat.le_of_ble_eq_true rfl) ?_)
  repeat' first
    | refine W1.box rfl ok.sc5 (fun b2 => ?_)
    | (refine W1.callV rfl rfl (WV.func ((f44 ok hs hnp).mono fun v M' => ?_)); rintro (⟨z, e, rfl, ⟨hz1, hz2⟩, he, rfl⟩ | ⟨bT, bm, p, f, rfl, rfl, val, hp, hnp'⟩))
    | (refine W1.callV rfl rfl (WV.func ((f40one .here).mono fun v M' => ?_)); rintro ⟨rfl, tt, rfl, ht⟩)
    | (refine W1.callV rfl rfl (WV.func (WF.freeze (.there (.there .here)) fun hb => (f49 (v := v) (ok.lessG (Gz.le_add hb)) (Gz.add_eq _ _ _) val hp (ht (by assumption)).1 (by have := (ht (by assumption)).2; omega)).mono fun v M' => ?_)); rintro ⟨b33, tw, rfl, hl, hi, rfl⟩)
    | refine W1.stZ rfl rfl hz1 hz2 .here ?_
    | refine W1.stZ rfl rfl hp.1 hp.sc .here ?_
    | refine W1.ldAll rfl .here rfl ?_
    | refine W1.ldAll rfl (.there .here) hp.1 ?_
    | refine W1.lenSlc rfl ok.hv.up.1 ?_
    | refine WC.ret ?_
    | refine WC.seq ?_
    | refine WC.block ?_
    | refine WC.region ?_
    | refine WC.skip ?_
    | refine WC.cond_f rfl (by first | assumption | rfl) ?_
    | refine WC.cond rfl (fun hc => ?_) (fun hc => ?_)
    | refine WO.nil ?_
    | refine WO.cons ?_
    | refine W1.mv rfl ?_
    | refine W1.fa rfl ?_
    | refine W1.ext rfl rfl ?_
    | refine W1.neq rfl rfl ?_
    | refine W1.bldS rfl rfl rfl (fun bb => ?_)
    | refine W1.alloc rfl (fun bb => ?_)
    | refine Exists.intro _ (And.intro (Res.tmp rfl (Res.tmp rfl Res.nil)) ?_)
    | refine W1.ldS rfl (.there .here) rfl ?_
    | refine W1.ldS rfl (.there (.there (.there .here))) rfl ?_
    | refine W1.sub rfl rfl (by omega) (by omega) ?_
  all_goals try exact absurd (by simpa using ‹(!decide (e = 0)) = false›) he
  all_goals try exact ⟨M, [_, _], List.Perm.refl _, _, [], 1, _, rfl, OwnC.nil (by decide), by decide, rfl⟩
  all_goals try exact ⟨M, [_, _, _, _, _], List.Perm.refl _, _, [], 1, _, rfl, OwnC.nil (by decide), by decide, rfl⟩
  have hst := val.stops
  refine ⟨_, _, perm_a _ _ _ _ _ _ _, _, [(b33, tw)], _, 0, rfl, OwnC.ints (by decide) hl hi (by omega) (fun c e => ?_), by omega, rfl⟩
  cases e
set_option maxHeartbeats 1000000 in
theorem f22 {g : Gz} {M : Mem} {t : TrD} {sp : V} {np : Nat} {pl : Nat → Int} {v : Int} (ok : TrOk g t) (hs : Slc g [] sp np 1 fun i _ => .int .i64 (pl i)) (hnp : np ≤ 1000000000) :
    WF tbl g 22 [.agg t.cells, sp, .int .i64 v] M fun v M' => M' = M ∧ ∃ n e, v = .tup [.int .i64 n, .int .i64 e] := by
  have hnc := ok.nc
  have hnv := ok.nv
  refine WF.trimS (WF.intro rfl (Nat.le_of_ble_eq_true rfl) ?_)
  repeat' first
    | refine W1.box rfl ok.sc5 (fun b2 => ?_)
    | (refine W1.callV rfl rfl (WV.func ((f44 ok hs hnp).mono fun v M' => ?_)); rintro (⟨z, e, rfl, ⟨hz1, hz2⟩, he, rfl⟩ | ⟨bT, bm, p, f, rfl, rfl, val, hp, hnp'⟩))
    | (refine W1.callV rfl rfl (WV.func ((f40one .here).mono fun v M' => ?_)); rintro ⟨rfl, tt, rfl, ht⟩)
    | (refine W1.callV rfl rfl (WV.func (WF.freeze (.there (.there .here)) fun hb => (f54 (c := v) (ok.lessG (Gz.le_add hb)) (Gz.add_eq _ _ _) val hp (ht (by assumption)).1 (by have := (ht (by assumption)).2; omega)).mono fun v M' => ?_)); rintro ⟨rfl, n, rfl⟩)
    | refine W1.stZ rfl rfl hz1 hz2 .here ?_
    | refine W1.stZ rfl rfl hp.1 hp.sc .here ?_
    | refine W1.ldAll rfl .here rfl ?_
    | refine W1.ldAll rfl (.there .here) hp.1 ?_
    | refine W1.lenSlc rfl ok.hc.up.1 ?_
    | refine WC.ret ?_
    | refine WC.seq ?_
    | refine WC.block ?_
    | refine WC.region ?_
    | refine WC.skip ?_
    | refine WC.cond_f rfl (by first | assumption | rfl) ?_
    | refine WC.cond rfl (fun hc => ?_) (fun hc => ?_)
    | refine WO.nil ?_
    | refine WO.cons ?_
    | refine W1.mv rfl ?_
    | refine W1.fa rfl ?_
    | refine W1.ext rfl rfl ?_
    | refine W1.neq rfl rfl ?_
    | refine W1.bldS rfl rfl rfl (fun bb => ?_)
    | refine W1.alloc rfl (fun bb => ?_)
    | refine Exists.intro _ (And.intro (Res.tmp rfl (Res.tmp rfl Res.nil)) ?_)
    | refine W1.ldS rfl (.there .here) rfl ?_
    | refine W1.ldS rfl (.there (.there (.there .here))) rfl ?_
    | refine W1.sub rfl rfl (by omega) (by omega) ?_
  all_goals try exact absurd (by simpa using ‹(!decide (e = 0)) = false›) he
  all_goals exact ⟨by repeat (first | exact Suf.refl | apply Suf.cons), _, _, rfl⟩
end Go.Ax
end
section
namespace Go.Ax
open Go.Ax.Ir
theorem W1.mxU {ft : FT FnR} {g : Gz} {L : Env} {M : Mem} {K : Env → Mem → Prop} {d : Nat} {x y : Opd} {k : IntKind} {a b : Int} (hx : lkO L x = some (.int k a)) (hy : lkO L y = some (.int k b)) (h : ∀ n, K ((d, .int k n) :: L) M) : W1 ft g ⟨some d, .mx x [y], none⟩ L M K := by
  have e : ∃ r, maxi k a [.int k b] = some r := by cases k <;> simp [maxi, ikEq]
  obtain ⟨r, e⟩ := e
  exact W1.pure (v := .int k r) rfl (fun τ hl => by simp [puO, hl.opd hx, hl.opd hy, e]) (h r)
theorem W1.mnU {ft : FT FnR} {g : Gz} {L : Env} {M : Mem} {K : Env → Mem → Prop} {d : Nat} {x y : Opd} {k : IntKind} {a b : Int} (hx : lkO L x = some (.int k a)) (hy : lkO L y = some (.int k b)) (h : ∀ n, K ((d, .int k n) :: L) M) : W1 ft g ⟨some d, .mn x [y], none⟩ L M K := by
  have e : ∃ r, mini k a [.int k b] = some r := by cases k <;> simp [mini, ikEq]
  obtain ⟨r, e⟩ := e
  exact W1.pure (v := .int k r) rfl (fun τ hl => by simp [puO, hl.opd hx, hl.opd hy, e]) (h r)
theorem IntL.set2 {cs : List V} (h : IntL cs) {o : Nat} {a b : Int} : IntL (splice cs o [.int .i64 a, .int .i64 b]) := by
  intro v hv
  simp only [splice, List.mem_append] at hv
  rcases hv with (hv | hv) | hv
  · exact h v (List.mem_of_mem_take hv)
  · exact IntL2 a b v hv
  · exact h v (List.mem_of_mem_drop hv)
theorem spl_len {cs vs : List V} {o : Nat} (h : o + vs.length ≤ cs.length) : (splice cs o vs).length = cs.length := by
  simp [splice]; omega
attribute [local irreducible] W1 WO WC WD WF WV
def ir24a : ICode := cS1 (cS2 (cS2 (cS2 (cS2 (cS2 (cS2 (cS2 ir24.code)))))))
def ir24f : ICode := cS2 (cS1 (cS2 (cS2 (cS2 (cS2 (cS2 (cS2 (cS2 ir24.code))))))))
def ir24b : ICode := cS2 (cS1 (cS2 (cS2 (cS2 (cS2 (cS2 (cS2 (cS2 (cS2 ir24.code)))))))))
def E24 (b5 b15 b16 n : Nat) (k : Int) (lv : V) : Env := [(3, .int .i64 k), (5, .ptr b5 0), (15, .slice b15 0 n none 2), (16, .slice b16 0 n (some n) 1), (17, lv)]
def B24 (b5 b15 b16 : Nat) (cs tw : List V) (t : TrD) (M : Mem) : Mem := (b15, Arr1 cs {}) :: (b16, Arr1 tw {}) :: (b5, Arr1 t.cells {}) :: M
set_option maxHeartbeats 2000000 in
theorem f24_fwd {g : Gz} {M : Mem} {t : TrD} {b5 b15 b16 n nl : Nat} {k : Int} {lv : V} {leg : Nat → List V} {cs tw : List V} {L : Env} {K : X → Env → Mem → Prop} (hn : (n : Int) = t.stops) (hn3 : n ≤ 3) (hk0 : 0 ≤ k) (hk1 : k < n)
    (hlv : SlcR g [] lv nl 2 leg) (hnl : nl = n) (hleg : ∀ i, i < nl → ∃ a b, leg i = [.int .i64 a, .int .i64 b]) (htw : tw.length = n) (hti : IntL tw) (hcs : cs.length = n * 2) (hci : IntL cs)
    (hL : subL L (E24 b5 b15 b16 n k lv ++ [(18, .int .i64 (k + 1))]))
    (hk : ∀ L' cs, cs.length = n * 2 → IntL cs → subL L' (E24 b5 b15 b16 n k lv) → K .normal L' (B24 b5 b15 b16 cs tw t M)) :
    WC tbl g none ir24f L (B24 b5 b15 b16 cs tw t M) K := by
  refine WC.block ?_
  refine WC.loopE (ι := Int) (fun i => (n - i).toNat) (fun i => E24 b5 b15 b16 n k lv ++ [(18, .int .i64 i)]) (fun i M' => 1 ≤ i ∧ i ≤ n ∧ ∃ cs : List V, cs.length = n * 2 ∧ IntL cs ∧ M' = B24 b5 b15 b16 cs tw t M) ?_ (k + 1) _ _ hL ⟨by omega, by omega, cs, hcs, hci, rfl⟩
  rintro i M' ⟨h0, h1, cs, hcs, hci, rfl⟩
  unfold B24 E24
  by_cases hlt : i < t.stops
  · have hdec : decide (i < t.stops) = true := decide_eq_true hlt
    obtain ⟨q0, hq0⟩ := hci.get (i := 0 + (i - 1).toNat * 2 + 0) (by omega)
    obtain ⟨q1, hq1⟩ := hci.get (i := 0 + (i - 1).toNat * 2 + 1) (by omega)
    obtain ⟨q2, hq2⟩ := hti.get (i := 0 + (i - 1).toNat * 1) (by omega)
    obtain ⟨la, lb, hl⟩ := hleg i.toNat (by omega)
    repeat' first
      | refine WC.cond_t rfl hdec ?_
      | refine W1.ia rfl rfl (by omega) (by omega) ?_
      | refine W1.iaRow rfl rfl hlv.up (by omega) (by omega) (fun b o hrd => ?_)
      | refine W1.ldS rfl .here hq0 (conjR (ReC.ldS rfl rfl .here hq0) (by simp) ?_)
      | refine W1.ldS rfl .here hq1 (conjR (ReC.ldS rfl rfl .here hq1) (by simp) ?_)
      | refine W1.ldS rfl (.there .here) hq2 (conjR (ReC.ldS rfl rfl (.there .here) hq2) (by simp) ?_)
      | refine W1.ldR rfl ((hl ▸ hrd).at 0 rfl) (conjR (ReC.ldR rfl rfl ((hl ▸ hrd).at 0 rfl)) (by simp) ?_)
      | refine W1.ldR rfl ((hl ▸ hrd).at 1 rfl) (conjR (ReC.ldR rfl rfl ((hl ▸ hrd).at 1 rfl)) (by simp) ?_)
      | refine WC.seq ?_
      | refine WC.block ?_
      | refine WC.region ?_
      | refine WC.draw ?_
      | refine WC.skip ?_
      | refine WO.nil ?_
      | refine WO.cons ?_
      | refine WD.nil ?_
      | refine WD.cons0 ?_
      | refine WD.consH ?_
      | refine WD.consR ?_
      | refine W1.mv rfl ?_
      | refine W1.fa rfl ?_
      | refine W1.lss rfl rfl ?_
      | refine W1.bld rfl rfl ?_
      | refine W1.ldS rfl (.there (.there .here)) rfl (conjR (ReC.ldS rfl rfl (.there (.there .here)) rfl) (by simp) ?_)
      | refine W1.ldS rfl (.there (.there .here)) rfl ?_
      | refine W1.st rfl rfl rfl rfl .here (by omega) ?_
      | refine W1.add rfl rfl (by omega) (by omega) ?_
      | refine W1.sub rfl rfl (by omega) (by omega) ?_
      | refine W1.addU rfl rfl (fun z => ?_)
      | refine W1.mulU rfl rfl (fun z => ?_)
    refine ⟨i + 1, by omega, by repeat (first | exact subL.nil _ | refine subL.cons rfl ?_), by omega, by omega, _, ?_, ?_, rfl⟩
    · exact (spl_len (by rw [hcs]; show 0 + i.toNat * 2 + 2 ≤ n * 2; omega)).trans hcs
    · exact hci.set2
  · have hdec : decide (i < t.stops) = false := decide_eq_false hlt
    repeat' first
      | refine WC.cond_f rfl hdec ?_
      | refine W1.ldS rfl (.there (.there .here)) rfl ?_
      | refine WC.seq ?_
      | refine WC.region ?_
      | refine WC.exit ?_
      | refine WO.nil ?_
      | refine WO.cons ?_
      | refine W1.mv rfl ?_
      | refine W1.fa rfl ?_
      | refine W1.lss rfl rfl ?_
    exact hk _ cs hcs hci (by repeat (first | exact subL.nil _ | refine subL.cons rfl ?_))
set_option maxHeartbeats 2000000 in
theorem f24_bwd {g : Gz} {M : Mem} {t : TrD} {b5 b15 b16 n nl : Nat} {k : Int} {lv : V} {leg : Nat → List V} {cs tw : List V} {L : Env} {K : X → Env → Mem → Prop} (hn3 : n ≤ 3) (hk0 : 0 ≤ k) (hk1 : k < n)
    (hlv : SlcR g [] lv nl 2 leg) (hnl : nl = n) (hleg : ∀ i, i < nl → ∃ a b, leg i = [.int .i64 a, .int .i64 b]) (htw : tw.length = n) (hti : IntL tw) (hcs : cs.length = n * 2) (hci : IntL cs)
    (hL : subL L (E24 b5 b15 b16 n k lv ++ [(20, .int .i64 (k - 1))]))
    (hk : ∀ L' cs, cs.length = n * 2 → IntL cs → lk L' 15 = some (.slice b15 0 n none 2) → K .normal L' (B24 b5 b15 b16 cs tw t M)) :
    WC tbl g none ir24b L (B24 b5 b15 b16 cs tw t M) K := by
  refine WC.block ?_
  refine WC.loopE (ι := Int) (fun i => (i + 1).toNat) (fun i => E24 b5 b15 b16 n k lv ++ [(20, .int .i64 i)]) (fun i M' => -1 ≤ i ∧ i + 1 < n ∧ ∃ cs : List V, cs.length = n * 2 ∧ IntL cs ∧ M' = B24 b5 b15 b16 cs tw t M) ?_ (k - 1) _ _ hL ⟨by omega, by omega, cs, hcs, hci, rfl⟩
  rintro i M' ⟨h0, h1, cs, hcs, hci, rfl⟩
  unfold B24 E24
  by_cases hlt : 0 ≤ i
  · have hdec : decide (0 ≤ i) = true := decide_eq_true hlt
    obtain ⟨p0, hp0⟩ := hci.get (i := 0 + i.toNat * 2 + 0) (by omega)
    obtain ⟨p1, hp1⟩ := hci.get (i := 0 + i.toNat * 2 + 1) (by omega)
    obtain ⟨q0, hq0⟩ := hci.get (i := 0 + (i + 1).toNat * 2 + 0) (by omega)
    obtain ⟨q1, hq1⟩ := hci.get (i := 0 + (i + 1).toNat * 2 + 1) (by omega)
    obtain ⟨q2, hq2⟩ := hti.get (i := 0 + i.toNat * 1) (by omega)
    obtain ⟨la, lb, hl⟩ := hleg (i + 1).toNat (by omega)
    repeat' first
      | refine WC.cond_t rfl hdec ?_
      | refine W1.ia rfl rfl (by omega) (by omega) ?_
      | refine W1.iaRow rfl rfl hlv.up (by omega) (by omega) (fun b o hrd => ?_)
      | refine W1.ldS rfl .here hp0 (conjR (ReC.ldS rfl rfl .here hp0) (by simp) ?_)
      | refine W1.ldS rfl .here hp1 (conjR (ReC.ldS rfl rfl .here hp1) (by simp) ?_)
      | refine W1.ldS rfl .here hq0 (conjR (ReC.ldS rfl rfl .here hq0) (by simp) ?_)
      | refine W1.ldS rfl .here hq1 (conjR (ReC.ldS rfl rfl .here hq1) (by simp) ?_)
      | refine W1.ldS rfl (.there .here) hq2 (conjR (ReC.ldS rfl rfl (.there .here) hq2) (by simp) ?_)
      | refine W1.ldR rfl ((hl ▸ hrd).at 0 rfl) (conjR (ReC.ldR rfl rfl ((hl ▸ hrd).at 0 rfl)) (by simp) ?_)
      | refine W1.ldR rfl ((hl ▸ hrd).at 1 rfl) (conjR (ReC.ldR rfl rfl ((hl ▸ hrd).at 1 rfl)) (by simp) ?_)
      | refine WC.seq ?_
      | refine WC.block ?_
      | refine WC.region ?_
      | refine WC.draw ?_
      | refine WC.skip ?_
      | refine WO.nil ?_
      | refine WO.cons ?_
      | refine WD.nil ?_
      | refine WD.cons0 ?_
      | refine WD.consH ?_
      | refine WD.consR ?_
      | refine W1.mv rfl ?_
      | refine W1.fa rfl ?_
      | refine W1.geq rfl rfl ?_
      | refine W1.bld rfl rfl ?_
      | refine W1.ldS rfl (.there (.there .here)) rfl (conjR (ReC.ldS rfl rfl (.there (.there .here)) rfl) (by simp) ?_)
      | refine W1.st rfl rfl rfl rfl .here (by omega) ?_
      | refine W1.add rfl rfl (by omega) (by omega) ?_
      | refine W1.sub rfl rfl (by omega) (by omega) ?_
      | refine W1.subU rfl rfl (fun z => ?_)
      | refine W1.mulU rfl rfl (fun z => ?_)
      | refine W1.mxU rfl rfl (fun z => ?_)
      | refine W1.mnU rfl rfl (fun z => ?_)
    refine ⟨i - 1, by omega, by repeat (first | exact subL.nil _ | refine subL.cons rfl ?_), by omega, by omega, _, ?_, ?_, rfl⟩
    · exact (spl_len (by rw [hcs]; show 0 + i.toNat * 2 + 2 ≤ n * 2; omega)).trans hcs
    · exact hci.set2
  · have hdec : decide (0 ≤ i) = false := decide_eq_false hlt
    repeat' first
      | refine WC.cond_f rfl hdec ?_
      | refine WC.seq ?_
      | refine WC.region ?_
      | refine WC.exit ?_
      | refine WO.nil ?_
      | refine WO.cons ?_
      | refine W1.mv rfl ?_
      | refine W1.geq rfl rfl ?_
    exact hk _ cs hcs hci rfl
end Go.Ax
end
section
namespace Go.Ax
open Go.Ax.Ir
theorem W1.iaRow0 {ft : FT FnR} {g : Gz} {L : Env} {M : Mem} {K : Env → Mem → Prop} {d n e : Nat} {x i : Opd} {s : V} {row : Nat → List V} {k : IntKind} {a : Int} (hx : lkO L x = some s) (hi : lkO L i = some (.int k a)) (hs : SlcR g [] s n e row) (h0 : 0 ≤ a) (h1 : a < n)
    (h : ∀ b o, (∀ M', Rds g M' b o (row a.toNat)) → K ((d, .ptr b o) :: L) M) : W1 ft g ⟨some d, .ia e x i, none⟩ L M K := by
  obtain ⟨h2, h3, h4⟩ := hs
  rcases h2 with ⟨rfl, rfl⟩ | ⟨b, o, cap, rfl, hc, hr⟩
  · omega
  · refine W1.ia hx hi h0 h1 (h b _ fun M' => Rds.of ?_ fun j v hj hp hsat => ?_)
    · intro e0
      have := h4 a.toNat (by omega)
      rw [e0] at this
      exact h3 this.symm
    · have hlt : j < e := by rw [← h4 a.toNat (by omega)]; exact (List.getElem?_eq_some_iff.1 hj).1
      rcases Slc.up (M := M') (Or.inr ⟨b, o, cap, rfl, hc, hr⟩) with ⟨h9, _⟩ | ⟨b', o', cap', e', _, hr'⟩
      · cases h9
      · cases e'
        obtain ⟨cs, ba, k1, k2, k3⟩ := hr' hp hsat
        refine ⟨cs, ba, k1, k2, ?_⟩
        have := k3 a.toNat (by omega) j hlt
        simpa [hj] using this
theorem perm_t (bT b16 b64 x : Nat × BP) (l : Mem) : (bT :: b16 :: b64 :: x :: l).Perm (x :: b16 :: bT :: b64 :: l) := by
  have h : (bT :: b16 :: b64 :: x :: l).Perm (x :: (bT :: b16 :: b64 :: l)) := (List.perm_middle (a := x) (l₁ := [bT, b16, b64]) (l₂ := l))
  exact h.trans (List.Perm.cons x (List.Perm.swap _ _ _))
theorem perm_u (a b c d e f x : Nat × BP) (y z : Nat × BP) (l : Mem) : (x :: y :: a :: b :: c :: d :: e :: f :: z :: l).Perm (x :: y :: z :: a :: b :: c :: d :: e :: f :: l) :=
  List.Perm.cons x (List.Perm.cons y (List.perm_middle (a := z) (l₁ := [a, b, c, d, e, f]) (l₂ := l)))
theorem perm_v (x a b c d e f g h : Nat × BP) (l : Mem) : (x :: a :: b :: c :: d :: e :: f :: g :: h :: l).Perm ([a, b, c, d, e, f, g, h] ++ (x :: l)) :=
  (List.perm_middle (a := x) (l₁ := [a, b, c, d, e, f, g, h]) (l₂ := l)).symm
attribute [local irreducible] W1 WO WC WD WF WV
set_option maxHeartbeats 4000000 in
theorem f24 {g : Gz} {M : Mem} {t : TrD} {sp : V} {np : Nat} {pl : Nat → Int} {v k tm : Int} (ok : TrOk g t) (hs : Slc g [] sp np 1 fun i _ => .int .i64 (pl i)) (hnp : np ≤ 1000000000) :
    WF tbl g 24 [.agg t.cells, sp, .int .i64 v, .int .i64 k, .int .i64 tm] M (PostL 2 M) := by
  have hnc := ok.nc
  have hnv := ok.nv
  refine WF.trim (WF.intro rfl (Nat.le_of_ble_eq_true rfl) ?_)
  repeat' first
    | exact absurd (by simpa using ‹(!decide (e = 0)) = false›) he
    | refine W1.box rfl ok.sc5 (fun b2 => ?_)
    | (refine W1.callV rfl rfl (WV.func ((f44 ok hs hnp).mono fun v M' => ?_)); rintro (⟨z, e, rfl, ⟨hz1, hz2⟩, he, rfl⟩ | ⟨bT, bm, p, f, rfl, rfl, val, hp, hnp'⟩))
    | (refine W1.callV rfl rfl (WV.func ((f40one (hi := (t.nv : Int) - 1) .here).mono fun v M' => ?_)); rintro ⟨rfl, t1, rfl, ht1⟩)
    | (refine W1.callV rfl rfl (WV.func ((f40one (hi := t.stops - 1) .here).mono fun v M' => ?_)); rintro ⟨rfl, t2, rfl, ht2⟩)
    | (refine W1.callV rfl rfl (WV.func (WF.freeze (.there (.there (.there .here))) fun hb => (f49 (v := v) (ok.lessG (Gz.le_add hb)) (Gz.add_eq _ _ _) val hp (ht1 (by assumption)).1 (by have := (ht1 (by assumption)).2; omega)).mono fun v M' => ?_)); rintro ⟨b15, cs, rfl, hl, hi, rfl⟩)
    | refine W1.stZ rfl rfl hz1 hz2 .here ?_
    | refine W1.stZ rfl rfl hp.1 hp.sc .here ?_
    | refine W1.ldAll rfl .here rfl ?_
    | refine W1.ldAll rfl (.there (.there .here)) hp.1 ?_
    | refine W1.lenSlc rfl ok.hv.up.1 ?_
    | refine WC.ret ?_
    | refine WC.seq ?_
    | refine WC.block ?_
    | refine WC.region ?_
    | refine WC.draw ?_
    | refine WC.skip ?_
    | refine WC.cond_t rfl (by first | assumption | rfl) ?_
    | refine WC.cond_f rfl (by first | assumption | rfl) ?_
    | refine WC.cond rfl (fun hc => ?_) (fun hc => ?_)
    | refine WO.nil ?_
    | refine WO.cons ?_
    | refine WD.cons0 ?_
    | refine W1.guard_y rfl (by first | assumption | rfl) ?_
    | refine W1.guard_n rfl (by first | assumption | rfl) ?_
    | refine W1.guard rfl (fun hc => ?_) (fun hc => ?_)
    | refine W1.pick_t rfl (by first | assumption | rfl) rfl ?_
    | refine W1.pick_f rfl (by first | assumption | rfl) rfl ?_
    | refine W1.mv rfl ?_
    | refine W1.fa rfl ?_
    | refine W1.ext rfl rfl ?_
    | refine W1.neq rfl rfl ?_
    | refine W1.bldS rfl rfl rfl (fun bb => ?_)
    | refine W1.alloc rfl (fun bb => ?_)
    | refine Exists.intro _ (And.intro (Res.tmp rfl (Res.tmp rfl Res.nil)) ?_)
    | refine W1.ldS rfl (.there (.there (.there .here))) rfl ?_
    | refine W1.ldS rfl (.there (.there (.there (.there .here)))) rfl ?_
    | refine W1.sub rfl rfl (by omega) (by omega) ?_
    | (have hst := val.stops; refine W1.sub rfl rfl (by omega) (by omega) ?_)
  all_goals try exact ⟨M, [_, _], List.Perm.refl _, _, [], 1, _, rfl, OwnC.nil (by decide), by decide, rfl⟩
  all_goals try exact ⟨M, [_, _, _, _, _], List.Perm.refl _, _, [], 1, _, rfl, OwnC.nil (by decide), by decide, rfl⟩
  all_goals try exact ⟨M, [_, _, _, _, _, _], List.Perm.refl _, _, [], 1, _, rfl, OwnC.nil (by decide), by decide, rfl⟩
  have hst := val.stops
  obtain ⟨hk0, hk1⟩ := ht2 ‹t2 = false›
  obtain ⟨hv0, hv1⟩ := ht1 ‹t1 = false›
  obtain ⟨q0, hq0⟩ := hi.get (i := 0 + k.toNat * 2 + 0) (by omega)
  obtain ⟨q1, hq1⟩ := hi.get (i := 0 + k.toNat * 2 + 1) (by omega)
  obtain ⟨nm, r1, r2, lv, hrow, _, hlv, _⟩ := ok.vrow v.toNat (by omega)
  obtain ⟨hnl, _⟩ := val.van v.toNat (by omega)
  repeat' first
    | refine W1.ia rfl rfl (by omega) (by omega) ?_
    | refine W1.iaRow0 rfl rfl ok.hv hv0 (by omega) (fun b o hrd => ?_)
    | refine W1.ldS rfl (.there .here) hq0 (conjR (ReC.ldS rfl rfl (.there .here) hq0) (by simp) ?_)
    | refine W1.ldS rfl (.there .here) hq1 (conjR (ReC.ldS rfl rfl (.there .here) hq1) (by simp) ?_)
    | refine W1.ldAll rfl (.there (.there (.there (.there (.there .here))))) hp.1 (conjR (ReC.ldAll rfl rfl (.there (.there (.there (.there (.there .here))))) hp.1) (by simp) ?_)
    | (refine W1.callV rfl rfl (WV.func (WF.freeze (.there .here) fun hb => (f45 (ok.lessG (Gz.le_add hb)) (Gz.add_eq _ _ _) val hp).mono fun v M' => ?_)); rintro ⟨b16, tw, rfl, hl6, hi6, rfl⟩)
    | (refine W1.callV rfl rfl (WV.func ((f40one .here).mono fun v M' => ?_)); rintro ⟨rfl, t3, rfl, ht3⟩)
    | refine W1.ldS rfl .here rfl ⟨ReC.ldS rfl rfl .here rfl, fun k hk => ⟨_, List.mem_singleton.2 (Prod.ext (List.mem_singleton.1 hk) rfl), ReC.ldS rfl rfl (.there .here) rfl⟩, ?_⟩
    | refine W1.ldR rfl ((hrow ▸ hrd _).at 3 rfl) ⟨ReC.ldR rfl rfl ((hrow ▸ hrd _).at 3 rfl), fun k hk => ⟨_, List.mem_singleton.2 (Prod.ext (List.mem_singleton.1 hk) rfl), ReC.ldR rfl rfl ((hrow ▸ hrd _).at 3 rfl)⟩, ?_⟩
    | refine f24_bwd (b5 := b2) (b15 := b15) (b16 := b16) (n := t.stops.toNat) (k := k) (lv := lv) (t := t) (cs := cs') (tw := tw) (by omega) hk0 (by omega) hlv (by omega) (fun i hi => ok.lrow v.toNat i (by omega) hi) (by omega) hi6 hl' hi' ?_ (fun L2 cs2 hl2 hi2 hL2 => ?_)
    | refine WC.permM ((perm_t _ _ _ _ _).trans (perm_u _ _ _ _ _ _ _ _ _ _)) (f24_fwd (b5 := b2) (b15 := b15) (b16 := b16) (n := t.stops.toNat) (k := k) (lv := lv) (t := t) (by omega) (by omega) hk0 (by omega) hlv (by omega) (fun i hi => ok.lrow v.toNat i (by omega) hi) (by omega) hi6 ?_ ?_ ?_ (fun L' cs' hl' hi' hL' => WC.weak hL' ?_))
    | refine WC.seq ?_
    | refine WC.region ?_
    | refine WC.draw ?_
    | refine WC.skip ?_
    | refine WC.cond rfl (fun hc => ?_) (fun hc => ?_)
    | refine WO.nil ?_
    | refine WO.cons ?_
    | refine WD.nil ?_
    | refine WD.cons0 ?_
    | refine WD.consH ?_
    | refine WD.consR ?_
    | refine W1.mv rfl ?_
    | refine W1.nilck rfl ?_
    | refine W1.fa rfl ?_
    | refine W1.bld rfl rfl ?_
    | refine W1.bldS rfl rfl rfl (fun bb => ?_)
    | refine Exists.intro _ (And.intro (Res.tmp rfl (Res.tmp rfl Res.nil)) ?_)
    | refine W1.st rfl rfl rfl rfl (.there (.there .here)) (by omega) ?_
    | refine WC.ret ?_
    | refine W1.add rfl rfl (by omega) (by omega) ?_
    | refine W1.sub rfl rfl (by omega) (by omega) ?_
  · exact ⟨M, [_, _, _, _, _, _, _, _], List.Perm.refl _, _, [], 1, _, rfl, OwnC.nil (by decide), by decide, rfl⟩
  · exact (spl_len (by rw [hl]; show 0 + k.toNat * 2 + 2 ≤ t.stops.toNat * 2; omega)).trans hl
  · exact hi.set2
  · have e6 : tw.length = t.stops.toNat := by omega
    rw [e6]
    unfold E24
    repeat (first | exact subL.nil _ | refine subL.cons rfl ?_)
  · unfold E24
    repeat (first | exact subL.nil _ | refine subL.cons rfl ?_)
  · refine W1.mv (show lkO L2 (.t 15) = _ from hL2) ?_
    unfold B24
    repeat' first
      | refine WC.ret ?_
      | refine WO.nil ?_
      | refine WO.cons ?_
      | refine W1.mv rfl ?_
      | refine Exists.intro _ (And.intro (Res.tmp rfl (Res.tmp rfl Res.nil)) ?_)
    refine ⟨_, _, perm_v _ _ _ _ _ _ _ _ _ _, _, [(b15, cs2)], _, 0, rfl, OwnC.ints (by decide) hl2 hi2 (by omega) (fun c e => ?_), by omega, rfl⟩
    cases e
end Go.Ax
end
