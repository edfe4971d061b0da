import Derived.Test.YtofcejekdppbnaaE1
import Derived.Test.YtofcejekdppbnaaA4
set_option linter.unusedSectionVars false
set_option linter.unusedVariables false
set_option linter.unusedSimpArgs false
section
namespace Go.Ax
open Go.Ax.Ir
attribute [local irreducible] W1 WO WC WD WF WV
theorem f58 {g : Gz} {M : Mem} {s : V} {n : Nat} {num : Nat → Int} (hs : Slc g M s n 1 fun i _ => .int .i64 (num i)) (hn : n ≤ 1000000000000) :
    WF tbl g 58 [s] M fun v M' => M' = M ∧ ∃ k : Int, v = .int .i64 k := by
  refine WF.intro rfl (Nat.le_of_ble_eq_true rfl) ?_
  refine WC.seq (WC.region (WO.cons (W1.mv rfl (WO.nil ?_))))
  refine WC.seq (WC.region (WO.cons (W1.mv rfl (WO.nil ?_))))
  refine WC.seq (WC.seq (WC.region (WO.cons (W1.mv rfl (WO.cons (W1.lenSlc rfl hs (WO.cons (W1.mv rfl (WO.nil ?_)))))))))
  refine WC.block ?_
  refine WC.loopE (ι := Int) (fun i => (n - i).toNat) (fun i => [(3, .int .i64 0), (6, s), (7, .int .i64 n), (8, .int .i64 i)]) (fun i M' => 0 ≤ i ∧ i ≤ n ∧ M' = M) ?_ 0 _ _
    (by repeat (first | exact subL.nil _ | refine subL.cons rfl ?_)) ⟨by omega, by omega, rfl⟩
  rintro i M' ⟨h0, h1, rfl⟩
  repeat' first
    | refine W1.iaSlc rfl rfl hs (by omega) (by have := of_decide_eq_true ‹decide _ = true›; omega) (fun b o hrd => ?_)
    | refine W1.ldR rfl (hrd 0 (by omega)) ?_
    | refine WC.ret ?_
    | refine WC.seq ?_
    | refine WC.block ?_
    | refine WC.region ?_
    | refine WC.skip ?_
    | refine WC.exit ?_
    | refine WC.cond rfl (fun hc => ?_) (fun hc => ?_)
    | refine WO.nil ?_
    | refine WO.cons ?_
    | refine W1.mv rfl ?_
    | refine W1.lss rfl rfl ?_
    | refine W1.neq rfl rfl ?_
    | refine Exists.intro _ (And.intro (Res.tmp rfl Res.nil) ?_)
    | refine W1.add rfl rfl (by omega) (by omega) ?_
  all_goals try exact ⟨rfl, _, rfl⟩
  have hlt := of_decide_eq_true ‹decide (i < (n : Int)) = true›
  exact ⟨i + 1, by omega, by repeat (first | exact subL.nil _ | refine subL.cons rfl ?_), by omega, by omega, rfl⟩
theorem f98 {g : Gz} {M : Mem} {a : Int} : WF tbl g 98 [.int .i64 a] M fun v M' => M' = M ∧ v = .bool false := by
  refine WF.intro rfl (Nat.le_of_ble_eq_true rfl) ?_
  repeat' first
    | refine WC.ret ?_
    | refine WC.seq ?_
    | refine WC.region ?_
    | refine WO.nil ?_
    | refine WO.cons ?_
    | refine W1.mv rfl ?_
    | refine W1.neq rfl rfl ?_
    | refine Exists.intro _ (And.intro (Res.tmp rfl Res.nil) ?_)
  exact ⟨rfl, by simp [packR]⟩
theorem f84 {g : Gz} {M : Mem} {a b : Int} : WF tbl g 84 [.int .i64 a, .int .i64 b] M fun v M' => M' = M ∧ ∃ k : Int, v = .int .i64 k := by
  refine WF.intro rfl (Nat.le_of_ble_eq_true rfl) ?_
  repeat' first
    | refine WC.ret ?_
    | (refine W1.callV rfl rfl (WV.func (f98.mono fun v M' => ?_)); rintro ⟨rfl, rfl⟩)
    | refine WC.seq ?_
    | refine WC.region ?_
    | refine WC.skip ?_
    | refine WC.cond_f rfl (by first | assumption | rfl) ?_
    | refine WC.cond rfl (fun hc => ?_) (fun hc => ?_)
    | refine WO.nil ?_
    | refine WO.cons ?_
    | refine W1.mv rfl ?_
    | refine W1.lss rfl rfl ?_
    | refine W1.gtr rfl rfl ?_
    | refine Exists.intro _ (And.intro (Res.tmp rfl Res.nil) ?_)
  all_goals exact ⟨rfl, _, rfl⟩
theorem f61 {g : Gz} {M : Mem} {s s2 : V} {n m : Nat} {num num2 : Nat → Int} (hs : Slc g M s n 1 fun i _ => .int .i64 (num i)) (hs2 : Slc g M s2 m 1 fun i _ => .int .i64 (num2 i)) (hn : n ≤ 1000000000000) :
    WF tbl g 61 [s, s2] M fun v M' => M' = M ∧ ∃ k : Int, v = .int .i64 k := by
  refine WF.intro rfl (Nat.le_of_ble_eq_true rfl) ?_
  refine WC.seq (WC.region (WO.cons (W1.mv rfl (WO.nil ?_))))
  refine WC.seq (WC.seq (WC.region (WO.cons (W1.mv rfl (WO.cons (W1.lenSlc rfl hs (WO.cons (W1.mv rfl (WO.nil ?_)))))))))
  refine WC.block ?_
  refine WC.loopE (ι := Int) (fun i => (n - i).toNat) (fun i => [(0, s), (1, s2), (9, s), (10, .int .i64 n), (11, .int .i64 i)]) (fun i M' => 0 ≤ i ∧ i ≤ n ∧ M' = M) ?_ 0 _ _
    (by repeat (first | exact subL.nil _ | refine subL.cons rfl ?_)) ⟨by omega, by omega, rfl⟩
  rintro i M' ⟨h0, h1, rfl⟩
  repeat' first
    | refine W1.iaSlc rfl rfl hs (by omega) (by have := of_decide_eq_true ‹decide _ = true›; omega) (fun b o hrd => ?_)
    | refine W1.iaSlc rfl rfl hs2 (by omega) (by have := of_decide_eq_false ‹decide ((m : Int) ≤ i) = false›; omega) (fun b o hrd => ?_)
    | refine W1.ldR rfl (hrd 0 (by omega)) ?_
    | refine W1.lenSlc rfl hs ?_
    | refine W1.lenSlc rfl hs2 ?_
    | (refine W1.callV rfl rfl (WV.func (f84.mono fun v M' => ?_)); rintro ⟨rfl, k, rfl⟩)
    | refine WC.ret ?_
    | refine WC.seq ?_
    | refine WC.block ?_
    | refine WC.region ?_
    | refine WC.skip ?_
    | refine WC.exit ?_
    | refine WC.cond rfl (fun hc => ?_) (fun hc => ?_)
    | refine WO.nil ?_
    | refine WO.cons ?_
    | refine W1.mv rfl ?_
    | refine W1.lss rfl rfl ?_
    | refine W1.geq rfl rfl ?_
    | refine W1.neq rfl rfl ?_
    | refine Exists.intro _ (And.intro (Res.tmp rfl Res.nil) ?_)
    | refine W1.add rfl rfl (by omega) (by omega) ?_
  all_goals try exact ⟨rfl, _, rfl⟩
  have hlt := of_decide_eq_true ‹decide (i < (n : Int)) = true›
  exact ⟨i + 1, by omega, by repeat (first | exact subL.nil _ | refine subL.cons rfl ?_), by omega, by omega, rfl⟩
theorem f83 {g : Gz} {M : Mem} {a : Int} : WF tbl g 83 [.int .u64 a] M fun v M' => M' = M ∧ ∃ k : Int, v = .int .i64 k := by
  refine WF.intro rfl (Nat.le_of_ble_eq_true rfl) ?_
  repeat' first
    | refine WC.ret ?_
    | refine WC.seq ?_
    | refine WC.region ?_
    | refine WO.nil ?_
    | refine WO.cons ?_
    | refine W1.mv rfl ?_
    | refine Exists.intro _ (And.intro (Res.tmp rfl Res.nil) ?_)
    | refine W1.shrU rfl rfl (by decide) (fun z => ?_)
    | refine W1.andU rfl rfl (fun z => ?_)
    | refine W1.addU rfl rfl (fun z => ?_)
    | refine W1.convU rfl ?_
  all_goals exact ⟨rfl, _, rfl⟩
theorem f60 {g : Gz} {M : Mem} {a : Int} : WF tbl g 60 [.int .u64 a] M fun v M' => M' = M ∧ ∃ k : Int, v = .int .i64 k := by
  refine WF.intro rfl (Nat.le_of_ble_eq_true rfl) ?_
  repeat' first
    | refine WC.ret ?_
    | (refine W1.callV rfl rfl (WV.func (f83.mono fun v M' => ?_)); rintro ⟨rfl, k, rfl⟩)
    | refine WC.seq ?_
    | refine WC.region ?_
    | refine WC.skip ?_
    | refine WC.cond_f rfl (by first | assumption | rfl) ?_
    | refine WO.nil ?_
    | refine WO.cons ?_
    | refine W1.mv rfl ?_
    | refine Exists.intro _ (And.intro (Res.tmp rfl Res.nil) ?_)
  all_goals exact ⟨rfl, _, rfl⟩
end Go.Ax
end
section
namespace Go.Ax
open Go.Ax.Ir
section
variable {ft : FT FnR} {g : Gz}
theorem Sat.swapP {b : Nat} {p p' : BP} {M : Mem} {hp : HP} (hs : Sat g ((b, p) :: M) hp) (h : ∀ o, hp.get b = some o → p o → p' o) : Sat g ((b, p') :: M) hp := by
  refine ⟨hs.fz, fun q hq => ?_, hs.nd⟩
  rcases List.mem_cons.1 hq with rfl | hq
  · obtain ⟨h1, ⟨o, h2, h3⟩, h4⟩ := hs.mem (b, p) (List.mem_cons_self ..)
    exact ⟨h1, ⟨o, h2, h o h2 h3⟩, h4⟩
  · exact hs.mem q (List.mem_cons_of_mem _ hq)
theorem Kp.swapP {b : Nat} {p p' : BP} {M M' : Mem} {h0 h1 : HP} (k : Kp ((b, p') :: M) h0 M' h1) : Kp ((b, p) :: M) h0 M' h1 := by
  refine ⟨k.n, fun c hc hn => k.keep c hc fun q hq => ?_, fun q hq => ?_⟩
  · rcases List.mem_cons.1 hq with rfl | hq
    · exact hn (b, p) (List.mem_cons_self ..)
    · exact hn q (List.mem_cons_of_mem _ hq)
  · rcases k.from_ q hq with ⟨q0, h1, h2⟩ | h1
    · rcases List.mem_cons.1 h1 with rfl | h1
      · exact Or.inl ⟨(b, p), List.mem_cons_self .., h2⟩
      · exact Or.inl ⟨q0, List.mem_cons_of_mem _ h1, h2⟩
    · exact Or.inr h1
theorem WC.pin {cur : Option Nat} {c : ICode} {L : Env} {b : Nat} {p : BP} {M : Mem} {K : X → Env → Mem → Prop} (h : ∀ o, p o → WC ft g cur c L ((b, fun x => x = o) :: M) K) : WC ft g cur c L ((b, p) :: M) K := by
  intro τ hp hl hs
  obtain ⟨_, ⟨ob, e1, e2⟩, _⟩ := hs.mem _ (List.mem_cons_self ..)
  obtain ⟨n, x, τ', h', L', M', e, l, s, k, hK⟩ := h ob e2 τ hp hl (hs.swapP fun o ho _ => by simp only at e1; rw [e1] at ho; exact (Option.some.inj ho).symm)
  exact ⟨n, x, τ', h', L', M', e, l, s, k.swapP, hK⟩
theorem WC.unpin {cur : Option Nat} {c : ICode} {L : Env} {b : Nat} {p p' : BP} {M : Mem} {K : X → Env → Mem → Prop} (hpp : ∀ o, p o → p' o) (h : WC ft g cur c L ((b, p') :: M) K) : WC ft g cur c L ((b, p) :: M) K := by
  intro τ hp hl hs
  obtain ⟨n, x, τ', h', L', M', e, l, s, k, hK⟩ := h τ hp hl (hs.swapP fun o _ => hpp o)
  exact ⟨n, x, τ', h', L', M', e, l, s, k.swapP, hK⟩
def lkV (z : V) : Option (Nat × V × Nat) → V
  | none => .tup [z, .bool false]
  | some (_, v, _) => .tup [v, .bool true]
theorem W1.lkpPin {L : Env} {M : Mem} {K : Env → Mem → Prop} {d : Nat} {q : EqK} {z vk : V} {m k : Opd} {b : Nat} {es : List (V × V × Nat)} {clk : Nat} {r : Option (Nat × V × Nat)} {M' : Mem} (hm : lkO L m = some (.map b)) (hk : lkO L k = some vk) (hat : At M b (fun o => o = .map es clk) M') (hf : findK q vk es = some r)
    (h : K ((d, lkV z r) :: L) M) : W1 ft g ⟨some d, .lkp q z true m k, none⟩ L M K := by
  intro τ hp hl hs
  obtain ⟨_, ⟨ob, e1, rfl⟩, _⟩ := hs.mem _ hat.mem
  have e2 : entries hp.get (.map b) = some es := by simp [entries, e1]
  refine ⟨0, putD τ (some d) (lkV z r), hp, (d, lkV z r) :: L, M, stepO_yes ?_, hl.put (some d) _, hs, Kp.refl _ _, h⟩
  rw [opF_light (by simp [kindOf])]
  cases r with
  | none => simp [iop, kindOf, rdO, lkpF, hl.opd hm, hl.opd hk, e2, hf, lkV]
  | some p => obtain ⟨j, v, n⟩ := p; simp [iop, kindOf, rdO, lkpF, hl.opd hm, hl.opd hk, e2, hf, lkV]
theorem ReC.lkpPin {L : Env} {M : Mem} {d : Nat} {gd : Option (Nat × Bool)} {q : EqK} {z vk : V} {m k : Opd} {b : Nat} {es : List (V × V × Nat)} {clk : Nat} {r : Option (Nat × V × Nat)} {M' : Mem} (hm : lkO L m = some (.map b)) (hk : lkO L k = some vk) (hd : lk L d = some (lkV z r)) (hat : At M b (fun o => o = .map es clk) M') (hf : findK q vk es = some r) :
    ReC g ⟨some d, .lkp q z true m k, gd⟩ L M :=
  ReC.of hd fun τ hp hl hs => by
    obtain ⟨h0, ⟨ob, e1, rfl⟩, _⟩ := hs.mem _ hat.mem
    have e2 : entries hp.lget (.map b) = some es := by simp [entries, lget_of h0 e1]
    cases r with
    | none => simp [rdO, lkpF, hl.opd hm, hl.opd hk, e2, hf, lkV]
    | some p => obtain ⟨j, v, n⟩ := p; simp [rdO, lkpF, hl.opd hm, hl.opd hk, e2, hf, lkV]
theorem At.of_mem {b : Nat} {p : BP} : ∀ {M : Mem}, (b, p) ∈ M → ∃ M', At M b p M'
  | q :: M, h => by
    rcases List.mem_cons.1 h with rfl | h
    · exact ⟨_, .here⟩
    · obtain ⟨M', h'⟩ := At.of_mem h; exact ⟨_, .there h'⟩
end
attribute [local irreducible] W1 WO WC WD WF WV
def ir57A : ICode := cS2 (cS1 (cS2 (cS2 (cS2 (cS2 (cS2 ir57.code))))))
def E57 (bT b3 b4 b7 b9 : Nat) : Env := [(0, .ptr bT 0), (3, .ptr b3 0), (4, .ptr b4 0), (7, .ptr b7 0), (8, .func 54 [.ptr bT 0] []), (9, .ptr b9 0)]
end Go.Ax
end
section
namespace Go.Ax
open Go.Ax.Ir
attribute [local irreducible] W1 WO WC WD WF WV
def ir57i : ICode := cS2 (cS2 (cS2 (cBl (cS1 (cS2 (cS2 (cBl (cBl ir57A))))))))
def I3 (x y z : Int) : List V := [.int .i64 x, .int .i64 y, .int .i64 z]
set_option maxHeartbeats 1000000 in
theorem f57_in {g : Gz} {M : Mem} {bT b3 b4 b7 b9 bt n : Nat} {i10 x y z nv : Int} {t32 : V} {tw : List V} {L : Env} {K : X → Env → Mem → Prop} (hn : n ≤ 3) (htw : tw.length = n) (hti : IntL tw)
    (hL : subL L (E57 bT b3 b4 b7 b9 ++ [(32, t32), (33, .int .i64 nv), (34, .int .i64 i10), (46, .slice bt 0 n (some n) 1), (47, .int .i64 n), (48, .int .i64 0)]))
    (hk : ∀ L' y', subL L' (E57 bT b3 b4 b7 b9 ++ [(32, t32), (33, .int .i64 nv), (34, .int .i64 i10)]) → K .normal L' ((bt, Arr1 tw {}) :: (b7, Arr1 (I3 x y' z) {}) :: M)) :
    WC tbl g none ir57i L ((bt, Arr1 tw {}) :: (b7, Arr1 (I3 x y z) {}) :: M) K := by
  refine WC.block ?_
  refine WC.loopE (ι := Int) (fun i => (n - i).toNat) (fun i => E57 bT b3 b4 b7 b9 ++ [(32, t32), (33, .int .i64 nv), (34, .int .i64 i10), (46, .slice bt 0 n (some n) 1), (47, .int .i64 n), (48, .int .i64 i)]) (fun i M' => 0 ≤ i ∧ i ≤ n ∧ ∃ y, M' = (bt, Arr1 tw {}) :: (b7, Arr1 (I3 x y z) {}) :: M) ?_ 0 _ _ hL ⟨by omega, by omega, y, rfl⟩
  rintro i M' ⟨h0, h1, y, rfl⟩
  unfold E57
  by_cases hlt : i < (n : Int)
  · have hdec : decide (i < (n : Int)) = true := decide_eq_true hlt
    obtain ⟨q, hq⟩ := hti.get (i := 0 + i.toNat * 1) (by omega)
    repeat' first
      | refine WC.cond_t rfl hdec ?_
      | refine W1.ia rfl rfl (by omega) (by omega) ?_
      | refine W1.ldS rfl .here hq ?_
      | refine WC.seq ?_
      | refine WC.block ?_
      | refine WC.region ?_
      | refine WC.skip ?_
      | refine WO.nil ?_
      | refine WO.cons ?_
      | refine W1.mv rfl ?_
      | refine W1.fa rfl ?_
      | refine W1.lss rfl rfl ?_
      | refine W1.ldS rfl (.there .here) rfl ?_
      | refine W1.st rfl rfl rfl rfl (.there .here) (Nat.le_of_ble_eq_true rfl) ?_
      | refine W1.add rfl rfl (by omega) (by omega) ?_
      | refine W1.addU rfl rfl (fun w => ?_)
    exact ⟨i + 1, by omega, by repeat (first | exact subL.nil _ | refine subL.cons rfl ?_), by omega, by omega, _, rfl⟩
  · have hdec : decide (i < (n : Int)) = false := decide_eq_false hlt
    repeat' first
      | refine WC.cond_f rfl hdec ?_
      | refine WC.seq ?_
      | refine WC.region ?_
      | refine WC.exit ?_
      | refine WO.nil ?_
      | refine WO.cons ?_
      | refine W1.lss rfl rfl ?_
    exact hk _ y (by repeat (first | exact subL.nil _ | refine subL.cons rfl ?_))
structure Tms (n : Nat) (i : Nat) (bl : Nat → Nat) (cf : Nat → List V) (c9 : List V) : Prop where
  len : ∀ j, j < i → (cf j).length = n * 2 ∧ IntL (cf j)
  c9 : c9.length = 3 ∧ ∀ j, j < i → c9[j]? = some (.slice (bl j) 0 n none 2)
def tmsM (bl : Nat → Nat) (cf : Nat → List V) : Nat → Mem
  | 0 => []
  | i + 1 => (bl i, Arr1 (cf i) {}) :: tmsM bl cf i
theorem tmsM_mem {bl : Nat → Nat} {cf : Nat → List V} : ∀ {i j : Nat}, j < i → (bl j, Arr1 (cf j) {}) ∈ tmsM bl cf i
  | i + 1, j, h => by
    simp only [tmsM, List.mem_cons]
    by_cases e : j = i
    · subst e; exact Or.inl rfl
    · exact Or.inr (tmsM_mem (by omega))
theorem tmsM_congr {bl bl' : Nat → Nat} {cf cf' : Nat → List V} : ∀ {i : Nat}, (∀ j, j < i → bl j = bl' j ∧ cf j = cf' j) → tmsM bl cf i = tmsM bl' cf' i
  | 0, _ => rfl
  | i + 1, h => by
    simp only [tmsM]
    rw [tmsM_congr fun j hj => h j (by omega), (h i (by omega)).1, (h i (by omega)).2]
theorem splice_one {cs : List V} {o j : Nat} {v : V} (h : o < cs.length) : (splice cs o [v])[j]? = if j = o then some v else cs[j]? := by
  rw [splice_get2 (by simp only [List.length_singleton]; omega)]
  by_cases e : j = o
  · subst e; simp
  · rw [if_neg e]
    by_cases h1 : j < o
    · rw [if_pos h1]
    · rw [if_neg h1, if_neg (by simp; omega)]
theorem Tms.add {n i b : Nat} {bl : Nat → Nat} {cf : Nat → List V} {c9 cs : List V} (h : Tms n i bl cf c9) (hi : i < 3) (h1 : cs.length = n * 2) (h2 : IntL cs) :
    Tms n (i + 1) (fun j => if j = i then b else bl j) (fun j => if j = i then cs else cf j) (splice c9 i [.slice b 0 n none 2]) ∧
      tmsM (fun j => if j = i then b else bl j) (fun j => if j = i then cs else cf j) (i + 1) = (b, Arr1 cs {}) :: tmsM bl cf i := by
  refine ⟨⟨fun j hj => ?_, ?_, fun j hj => ?_⟩, ?_⟩
  · by_cases e : j = i
    · subst e; simp only [if_true]; exact ⟨h1, h2⟩
    · simp only [if_neg e]; exact h.len j (by omega)
  · exact (spl_len (by rw [h.c9.1]; exact hi)).trans h.c9.1
  · rw [splice_one (by rw [h.c9.1]; exact hi)]
    by_cases e : j = i
    · subst e; simp
    · rw [if_neg e, if_neg e]; exact h.c9.2 j (by omega)
  · simp only [tmsM, if_true]
    congr 1
    exact tmsM_congr fun j hj => by rw [if_neg (by omega), if_neg (by omega)]; exact ⟨rfl, rfl⟩
def B57 (b3 b4 b7 b9 : Nat) (p r7 c9 : List V) (M : Mem) : Mem := (b7, Arr1 r7 {}) :: (b9, Arr1 c9 {}) :: (b3, Arr1 p {}) :: (b4, Arr1 (I3 0 0 0) {}) :: M
end Go.Ax
end
section
namespace Go.Ax
open Go.Ax.Ir
theorem W1.weak {ft : FT FnR} {g : Gz} {o : IOper} {L L' : Env} {M : Mem} {K : Env → Mem → Prop} (hs : subL L L') (h : W1 ft g o L' M K) : W1 ft g o L M K :=
  fun τ hp hl hsat => h τ hp (fun i v hv => hl i v (hs i v hv)) hsat
theorem perm_A (x b7 b b9 b3 b4 : Nat × BP) (l : Mem) : (x :: b7 :: b :: b9 :: b3 :: b4 :: l).Perm ([x] ++ (b7 :: b9 :: b3 :: b4 :: b :: l)) :=
  List.Perm.cons x (List.Perm.cons b7 (List.perm_middle (a := b) (l₁ := [b9, b3, b4]) (l₂ := l)).symm)
attribute [local irreducible] W1 WO WC WD WF WV
set_option maxHeartbeats 2000000 in
theorem f57_A {g : Gz} {M : Mem} {t : TrD} {km : V} {p c9 : List V} {f : Nat → Int} {bT b3 b4 b7 b9 n : Nat} {L : Env} {K : X → Env → Mem → Prop} (ok : TrOk g t) (hT : g bT = some (.arr (t.cells ++ [km]) {})) (val : TrVal t) (hp : PlOk t p f) (hn : n = t.stops.toNat) (h9 : c9.length = 3)
    (hL : subL L (E57 bT b3 b4 b7 b9 ++ [(32, t.sv), (33, .int .i64 t.nv), (34, .int .i64 0)]))
    (hk : ∀ L' bl cf c9 y, Tms n t.nv bl cf c9 → subL L' (E57 bT b3 b4 b7 b9) → K .normal L' (B57 b3 b4 b7 b9 p (I3 0 y 0) c9 (tmsM bl cf t.nv ++ M))) :
    WC tbl g none ir57A L (B57 b3 b4 b7 b9 p (I3 0 0 0) c9 M) K := by
  have hst := val.stops
  have hnv := val.nv
  refine WC.block ?_
  refine WC.loopT (ι := Nat) (fun i => t.nv - i) (fun i => E57 bT b3 b4 b7 b9 ++ [(32, t.sv), (33, .int .i64 t.nv), (34, .int .i64 i)])
    (fun i M' => i ≤ t.nv ∧ ∃ bl cf c9 y, Tms n i bl cf c9 ∧ M' = B57 b3 b4 b7 b9 p (I3 0 y 0) c9 (tmsM bl cf i ++ M)) ?_ 0 _ _ hL
    ⟨Nat.zero_le _, fun _ => 0, fun _ => [], c9, 0, ⟨fun j hj => by omega, h9, fun j hj => by omega⟩, rfl⟩
  rintro i M' ⟨h1, bl, cf, c9, y, hTm, rfl⟩
  unfold B57 E57
  by_cases hlt : (i : Int) < t.nv
  · have hdec : decide ((i : Int) < t.nv) = true := decide_eq_true hlt
    have hc9 := hTm.c9.1
    repeat' first
      | refine WC.cond_t rfl hdec ?_
      | refine W1.ldAll rfl (.there (.there .here)) hp.1 ?_
      | refine W1.ldAll rfl (.there (.there (.there .here))) hp.1 ?_
      | (refine W1.callV rfl rfl (WV.func ((f49 ok hT val hp (v := i) (by omega) (by omega)).mono fun v M' => ?_)); rintro ⟨b, cs, rfl, hl, hi, rfl⟩)
      | (refine W1.callV rfl rfl (WV.func ((f45 ok hT val hp).mono fun v M' => ?_)); rintro ⟨b46, tw, rfl, hl6, hi6, rfl⟩)
      | refine W1.iaa rfl rfl (by omega) (by omega) ?_
      | refine W1.st rfl rfl rfl rfl (.there (.there .here)) (by omega) ?_
      | refine W1.len rfl ?_
      | refine WC.permM (List.Perm.cons _ (List.Perm.swap _ _ _)) (f57_in (bT := bT) (b3 := b3) (b4 := b4) (b7 := b7) (b9 := b9) (bt := b46) (n := tw.length) (tw := tw) (i10 := i) (nv := t.nv) (t32 := t.sv) (x := 0) (y := y) (z := 0) (by omega) rfl hi6 ?_ (fun L' y' hL' => ?_))
      | refine WC.seq ?_
      | refine WC.block ?_
      | refine WC.region ?_
      | refine WC.skip ?_
      | refine WO.nil ?_
      | refine WO.cons ?_
      | refine W1.mv rfl ?_
      | refine W1.lss rfl rfl ?_
    · unfold E57
      repeat (first | exact subL.nil _ | refine subL.cons rfl ?_)
    · refine W1.weak hL' ?_
      unfold E57
      repeat' first
        | refine WO.nil ?_
        | refine WO.cons ?_
        | refine W1.mv rfl ?_
        | refine W1.add rfl rfl (by omega) (by omega) ?_
      have e9 : 0 + ((i : Nat) : Int).toNat * 1 = i := by omega
      rw [e9]
      obtain ⟨hT', eM⟩ := hTm.add (b := b) (cs := cs) (by omega) (by rw [hl, hn]) hi
      refine ⟨i + 1, _, _, by omega, by repeat (first | exact subL.nil _ | refine subL.cons rfl ?_), perm_A _ _ _ _ _ _ _, by omega, _, _, _, y', hT', ?_⟩
      rw [eM, hn]
      rfl
  · have hdec : decide ((i : Int) < t.nv) = false := decide_eq_false hlt
    obtain rfl : i = t.nv := by omega
    repeat' first
      | refine WC.cond_f rfl hdec ?_
      | refine WC.seq ?_
      | refine WC.region ?_
      | refine WC.exit ?_
      | refine WO.nil ?_
      | refine WO.cons ?_
      | refine W1.lss rfl rfl ?_
    exact hk _ bl cf c9 y hTm (by repeat (first | exact subL.nil _ | refine subL.cons rfl ?_))
end Go.Ax
end
section
namespace Go.Ax
open Go.Ax.Ir
attribute [local irreducible] W1 WO WC WD WF WV
def ir57C : ICode := cS2 (cS1 (cS2 (cS2 (cS2 (cS2 (cS2 (cS2 ir57.code)))))))
set_option maxHeartbeats 2000000 in
theorem f57_C {g : Gz} {M : Mem} {t : TrD} {km : V} {p c9 : List V} {f : Nat → Int} {bl : Nat → Nat} {cf : Nat → List V} {bT b3 b4 b7 b9 n : Nat} {y : Int} {L : Env} {K : X → Env → Mem → Prop} (ok : TrOk g t) (hT : g bT = some (.arr (t.cells ++ [km]) {})) (val : TrVal t) (hp : PlOk t p f) (hn : n = t.stops.toNat) (hTm : Tms n t.nv bl cf c9)
    (hL : subL L (E57 bT b3 b4 b7 b9 ++ [(63, t.sc), (64, .int .i64 t.nc), (65, .int .i64 0)]))
    (hk : ∀ L' x z, subL L' (E57 bT b3 b4 b7 b9) → K .normal L' (B57 b3 b4 b7 b9 p (I3 x y z) c9 (tmsM bl cf t.nv ++ M))) :
    WC tbl g none ir57C L (B57 b3 b4 b7 b9 p (I3 0 y 0) c9 (tmsM bl cf t.nv ++ M)) K := by
  have hst := val.stops
  have hnv := val.nv
  have hnc := val.nc
  refine WC.block ?_
  refine WC.loopT (ι := Nat) (fun i => t.nc - i) (fun i => E57 bT b3 b4 b7 b9 ++ [(63, t.sc), (64, .int .i64 t.nc), (65, .int .i64 i)])
    (fun i M' => i ≤ t.nc ∧ ∃ x z, M' = B57 b3 b4 b7 b9 p (I3 x y z) c9 (tmsM bl cf t.nv ++ M)) ?_ 0 _ _ hL
    ⟨Nat.zero_le _, 0, 0, rfl⟩
  rintro i M' ⟨h1, x, z, rfl⟩
  unfold B57 E57
  by_cases hlt : (i : Int) < t.nc
  · have hdec : decide ((i : Int) < t.nc) = true := decide_eq_true hlt
    have hc9 := hTm.c9.1
    obtain ⟨nm, a1, a2, a3, hrow', hd0, hd1⟩ := val.crate i (by omega)
    have hrow : t.crate ((i : Nat) : Int).toNat = [.str nm, .int .i64 a1, .int .i64 a2, .int .i64 a3] := by simpa using hrow'
    obtain ⟨hpc', hf0, hf1⟩ := hp.2 i (by omega)
    have hpc : p[0 + ((i : Nat) : Int).toNat * 1]? = some (.int .i64 (f i)) := by simpa using hpc'
    by_cases hz : f i = 0
    · have hzd : decide (f i = 0) = true := decide_eq_true hz
      repeat' first
        | refine WC.cond_t rfl hdec ?_
        | refine WC.cond_t rfl hzd ?_
        | refine W1.iaRow0 rfl rfl ok.hc (by omega) hlt (fun b o hrd => ?_)
        | refine W1.ldV (vs := [.str nm, .int .i64 a1, .int .i64 a2, .int .i64 a3]) rfl rfl (hrow ▸ hrd _) ?_
        | refine W1.ldAll rfl (.there (.there (.there .here))) hp.1 ?_
        | (refine W1.callV rfl rfl (WV.func ((f54 ok hT val hp (c := i) (by omega) hlt).mono fun v M' => ?_)); rintro ⟨rfl, k54, rfl⟩)
        | refine W1.iaa rfl rfl (by omega) (by omega) ?_
        | refine W1.ldS rfl (.there (.there (.there .here))) hpc ?_
        | refine WC.seq ?_
        | refine WC.block ?_
        | refine WC.region ?_
        | refine WC.skip ?_
        | refine WC.cond rfl (fun hc => ?_) (fun hc => ?_)
        | refine WO.nil ?_
        | refine WO.cons ?_
        | refine W1.mv rfl ?_
        | refine W1.fa rfl ?_
        | refine W1.lss rfl rfl ?_
        | refine W1.eql rfl rfl ?_
        | refine W1.alloc rfl (fun bb => ?_)
        | refine W1.ldS rfl (.there .here) rfl ?_
        | refine W1.st (v := .agg [.str nm, .int .i64 a1, .int .i64 a2, .int .i64 a3]) rfl rfl rfl rfl .here (Nat.le_of_ble_eq_true rfl) ?_
        | refine W1.st rfl rfl rfl rfl (.there .here) (Nat.le_of_ble_eq_true rfl) ?_
        | refine W1.add (a := i) rfl rfl (by omega) (by omega) ?_
        | refine W1.addU rfl rfl (fun w => ?_)
      all_goals exact ⟨i + 1, _, [_], by omega, by repeat (first | exact subL.nil _ | refine subL.cons rfl ?_), List.Perm.refl _, by omega, _, _, rfl⟩
    · have hzd : decide (f i = 0) = false := decide_eq_false hz
      have hq9 : c9[0 + (f i - 1).toNat * 1]? = some (.slice (bl (f i - 1).toNat) 0 n none 2) := by
        have := hTm.c9.2 (f i - 1).toNat (by omega)
        simpa using this
      obtain ⟨hlc, hic⟩ := hTm.len (f i - 1).toNat (by omega)
      obtain ⟨q0, hq0⟩ := hic.get (i := 0 + a2.toNat * 2 + 1) (by omega)
      obtain ⟨Mt, hat⟩ := At.of_mem (List.mem_append_left M (tmsM_mem (bl := bl) (cf := cf) (i := t.nv) (j := (f i - 1).toNat) (by omega)))
      repeat' first
        | refine WC.cond_t rfl hdec ?_
        | refine WC.cond_f rfl hzd ?_
        | refine W1.iaRow0 rfl rfl ok.hc (by omega) hlt (fun b o hrd => ?_)
        | refine W1.ldV (vs := [.str nm, .int .i64 a1, .int .i64 a2, .int .i64 a3]) rfl rfl (hrow ▸ hrd _) ?_
        | refine W1.ldAll rfl (.there (.there (.there .here))) hp.1 ?_
        | (refine W1.callV rfl rfl (WV.func ((f54 ok hT val hp (c := i) (by omega) hlt).mono fun v M' => ?_)); rintro ⟨rfl, k54, rfl⟩)
        | refine W1.iaa rfl rfl (by omega) (by omega) ?_
        | refine W1.ia rfl rfl hd0 (by omega) ?_
        | refine W1.ldS rfl (.there (.there (.there .here))) hpc (conjR (ReC.ldS rfl rfl (.there (.there (.there .here))) hpc) (by simp) ?_)
        | refine W1.ldS rfl (.there (.there (.there .here))) hpc ?_
        | refine W1.ldS rfl (.there (.there .here)) hq9 (conjR (ReC.ldS rfl rfl (.there (.there .here)) hq9) (by simp) ?_)
        | refine W1.ldS rfl (.there (.there (.there (.there (.there hat))))) hq0 (conjR (ReC.ldS rfl rfl (.there (.there (.there (.there (.there hat))))) hq0) (by simp) ?_)
        | refine WC.seq ?_
        | refine WC.block ?_
        | refine WC.region ?_
        | refine WC.draw ?_
        | refine WC.skip ?_
        | refine WC.cond rfl (fun hc => ?_) (fun hc => ?_)
        | refine WO.nil ?_
        | refine WO.cons ?_
        | refine WD.nil ?_
        | refine WD.cons0 ?_
        | refine WD.consH ?_
        | refine WD.consR ?_
        | refine W1.mv rfl ?_
        | refine W1.fa rfl ?_
        | refine W1.lss rfl rfl ?_
        | refine W1.eql rfl rfl ?_
        | refine W1.alloc rfl (fun bb => ?_)
        | refine W1.ldS rfl .here rfl (conjR (ReC.ldS rfl rfl .here rfl) (by simp) ?_)
        | refine W1.ldS rfl (.there .here) rfl (conjR (ReC.ldS rfl rfl (.there .here) rfl) (by simp) ?_)
        | refine W1.ldS rfl (.there .here) rfl ?_
        | refine W1.st (v := .agg [.str nm, .int .i64 a1, .int .i64 a2, .int .i64 a3]) rfl rfl rfl rfl .here (Nat.le_of_ble_eq_true rfl) ?_
        | refine W1.st rfl rfl rfl rfl (.there .here) (Nat.le_of_ble_eq_true rfl) ?_
        | refine W1.add (a := i) rfl rfl (by omega) (by omega) ?_
        | refine W1.sub rfl rfl (by omega) (by omega) ?_
        | refine W1.addU rfl rfl (fun w => ?_)
        | refine W1.subU rfl rfl (fun w => ?_)
        | refine W1.mxU rfl rfl (fun w => ?_)
      all_goals exact ⟨i + 1, _, [_], by omega, by repeat (first | exact subL.nil _ | refine subL.cons rfl ?_), List.Perm.refl _, by omega, _, _, rfl⟩
  · have hdec : decide ((i : Int) < t.nc) = false := decide_eq_false hlt
    obtain rfl : i = t.nc := by omega
    repeat' first
      | refine WC.cond_f rfl hdec ?_
      | refine WC.seq ?_
      | refine WC.region ?_
      | refine WC.exit ?_
      | refine WO.nil ?_
      | refine WO.cons ?_
      | refine W1.lss rfl rfl ?_
    exact hk _ x z (by repeat (first | exact subL.nil _ | refine subL.cons rfl ?_))
end Go.Ax
end
section
namespace Go.Ax
open Go.Ax.Ir
theorem eqss_ints : ∀ {a b : List V} {ks : List CK}, a.length = ks.length → b.length = ks.length → (∀ k ∈ ks, k = .i) → IntL a → IntL b → (eqss ks a b).isSome = true
  | [], [], [], _, _, _, _, _ => rfl
  | [], _ :: _, [], _, h, _, _, _ => by simp at h
  | _ :: _, [], [], h, _, _, _, _ => by simp at h
  | [], _, _ :: _, h, _, _, _, _ => by simp at h
  | _ :: _, [], _ :: _, _, h, _, _, _ => by simp at h
  | _ :: _, _ :: _, [], h, _, _, _, _ => by simp at h
  | x :: a, y :: b, k :: ks, h1, h2, hk, hx, hy => by
    obtain ⟨m, rfl⟩ := hx x (List.mem_cons_self ..)
    obtain ⟨n, rfl⟩ := hy y (List.mem_cons_self ..)
    obtain rfl := hk k (List.mem_cons_self ..)
    have ih := eqss_ints (a := a) (b := b) (ks := ks) (by simpa using h1) (by simpa using h2) (fun k h => hk k (List.mem_cons_of_mem _ h)) (fun v h => hx v (List.mem_cons_of_mem _ h)) (fun v h => hy v (List.mem_cons_of_mem _ h))
    obtain ⟨r, hr⟩ := Option.isSome_iff_exists.1 ih
    simp [eqss, eqs, ikEq, hr]
theorem key6 : KeyOk (.ag [.i, .i, .i, .i, .i, .i]) (Ints 6) := by
  rintro a b ⟨x, rfl, hx, hxi⟩ ⟨y, rfl, hy, hyi⟩
  exact eqss_ints hx hy (ks := [.i, .i, .i, .i, .i, .i]) (by simp) hxi hyi
theorem findK_ok {q : EqK} {Pk Pv : V → Prop} {vk : V} {es : List (V × V × Nat)} (hq : KeyOk q Pk) (hes : ∀ e ∈ es, Pk e.1 ∧ Pv e.2.1) (hv : Pk vk) : ∃ r, findK q vk es = some r ∧ ∀ j v n, r = some (j, v, n) → Pv v := by
  obtain ⟨r, e3⟩ := find_some (q := q) (k := vk) (es := es) 0 fun e he => hq _ _ hv (hes e he).1
  refine ⟨r, by simp [findK, hq _ _ hv hv, e3], fun j v n e => ?_⟩
  subst e
  obtain ⟨k', hk'⟩ := find_mem e3
  exact (hes _ hk').2
theorem Ints.three {v : V} (h : Ints 3 v) : ∃ x y z, v = .agg (I3 x y z) := by
  obtain ⟨cs, rfl, hl, hi⟩ := h
  match cs, hl with
  | [a, b, c], _ =>
    obtain ⟨x, rfl⟩ := hi a (by simp)
    obtain ⟨y, rfl⟩ := hi b (by simp)
    obtain ⟨z, rfl⟩ := hi c (by simp)
    exact ⟨x, y, z, rfl⟩
theorem Ints3 (x y z : Int) : Ints 3 (.agg (I3 x y z)) := ⟨_, rfl, rfl, fun v hv => by
  simp only [I3, List.mem_cons, List.mem_nil_iff, or_false] at hv
  rcases hv with rfl | rfl | rfl
  · exact ⟨_, rfl⟩
  · exact ⟨_, rfl⟩
  · exact ⟨_, rfl⟩⟩
theorem Up.of_mem {b : Nat} {p : BP} : ∀ {M : Mem}, (b, p) ∈ M → Up M b p p M
  | q :: M, h => by
    rcases List.mem_cons.1 h with rfl | h
    · exact .here
    · exact .there (Up.of_mem h)
theorem perm_n4 (a b c d : Nat × BP) (l : Mem) : (a :: b :: c :: d :: l).Perm (d :: a :: b :: c :: l) :=
  List.perm_middle (a := d) (l₁ := [a, b, c]) (l₂ := l)
theorem perm_L (b9 b7 bm b5 b4 b3 : Nat × BP) (l : Mem) : (b9 :: b7 :: bm :: b5 :: b4 :: b3 :: l).Perm (b7 :: b9 :: b3 :: b4 :: bm :: b5 :: l) := by
  refine (List.Perm.swap _ _ _).trans (List.Perm.cons _ (List.Perm.cons _ ?_))
  exact (List.perm_middle (a := b3) (l₁ := [bm, b5, b4]) (l₂ := l)).trans (List.Perm.cons _ (List.perm_middle (a := b4) (l₁ := [bm, b5]) (l₂ := l)))
theorem perm_M (b7 b9 b3 b4 bm b5 : Nat × BP) (X l : Mem) : (b7 :: b9 :: b3 :: b4 :: (X ++ bm :: b5 :: l)).Perm ((b7 :: b9 :: b3 :: b4 :: b5 :: X) ++ (bm :: l)) := by
  refine List.Perm.cons _ (List.Perm.cons _ (List.Perm.cons _ (List.Perm.cons _ ?_)))
  refine ((List.Perm.swap b5 bm l).append_left X).trans ?_
  exact List.perm_middle
theorem W1.lkpTo {ft : FT FnR} {g : Gz} {L : Env} {M : Mem} {K : Env → Mem → Prop} {d : Nat} {q : EqK} {z vk w : V} {m k : Opd} {b : Nat} {es : List (V × V × Nat)} {clk : Nat} {r : Option (Nat × V × Nat)} {M' : Mem} (hm : lkO L m = some (.map b)) (hk : lkO L k = some vk) (hat : At M b (fun o => o = .map es clk) M') (hf : findK q vk es = some r) (hw : lkV z r = w)
    (h : K ((d, w) :: L) M) : W1 ft g ⟨some d, .lkp q z true m k, none⟩ L M K := by
  subst hw; exact W1.lkpPin hm hk hat hf h
theorem ReC.lkpTo {g : Gz} {L : Env} {M : Mem} {d : Nat} {gd : Option (Nat × Bool)} {q : EqK} {z vk w : V} {m k : Opd} {b : Nat} {es : List (V × V × Nat)} {clk : Nat} {r : Option (Nat × V × Nat)} {M' : Mem} (hm : lkO L m = some (.map b)) (hk : lkO L k = some vk) (hd : lk L d = some w) (hat : At M b (fun o => o = .map es clk) M') (hf : findK q vk es = some r) (hw : lkV z r = w) :
    ReC g ⟨some d, .lkp q z true m k, gd⟩ L M := by
  subst hw; exact ReC.lkpPin hm hk hd hat hf
attribute [local irreducible] W1 WO WC WD WF WV
set_option maxHeartbeats 4000000 in
theorem f57 {g : Gz} {M : Mem} {t : TrD} {p : List V} {f : Nat → Int} {bT bm : Nat} (ok : TrOk g t) (hT : g bT = some (.arr (t.cells ++ [.map bm]) {})) (val : TrVal t) (hp : PlOk t p f) :
    WF tbl g 57 [.ptr bT 0, .agg p] ((bm, MapOf (Ints 6) (Ints 3)) :: M) fun v M' => M' = (bm, MapOf (Ints 6) (Ints 3)) :: M ∧ ∃ x y z, v = .agg (I3 x y z) := by
  have hst := val.stops
  have hnv := val.nv
  have hnc := val.nc
  have l0 : rdAgg g false bT 0 1 = some t.sv := by simp [rdAgg, hT, TrD.cells]
  have l3 : rdAgg g false bT 3 1 = some t.sc := by simp [rdAgg, hT, TrD.cells]
  have l5 : rdAgg g false bT 5 1 = some (.map bm) := by simp [rdAgg, hT, TrD.cells]
  have hsc : (V.agg p).cells.all V.scalar = true := hp.sc
  refine WF.trim (WF.intro rfl (Nat.le_of_ble_eq_true rfl) ?_)
  refine WC.permM (List.Perm.refl _) (WC.pin fun o ho => ?_)
  obtain ⟨es, clk, rfl, hes⟩ := ho
  obtain ⟨r, hf, hr⟩ := findK_ok key6 hes (Ints6 hp)
  have hlk : ∃ x y z tt, lkV (.agg (I3 0 0 0)) r = .tup [.agg (I3 x y z), .bool tt] := by
    cases r with
    | none => exact ⟨0, 0, 0, false, rfl⟩
    | some q =>
      obtain ⟨j, v, n⟩ := q
      obtain ⟨x, y, z, rfl⟩ := (hr j v n rfl).three
      exact ⟨x, y, z, true, rfl⟩
  obtain ⟨x, y, z, tt, hlk⟩ := hlk
  have hIr : ∀ x y z, (V.agg (I3 x y z)).cells.all V.scalar = true := fun _ _ _ => rfl
  repeat' first
    | refine WC.permM (perm_n4 _ _ _ _ _) (WC.unpin (b := bm) (p := fun o => o = .map es clk) (p' := MapOf (Ints 6) (Ints 3)) (fun o e => ⟨es, clk, e, hes⟩) ?_)
    | refine W1.box rfl hsc (fun b3 => ?_)
    | refine W1.ldG rfl l5 (conjR (ReC.ldG rfl rfl l5) (by simp) ?_)
    | refine W1.ldAll rfl (.there .here) hp.1 (conjR (ReC.ldAll rfl rfl (.there .here) hp.1) (by simp) ?_)
    | refine W1.lkpTo (z := .agg (I3 0 0 0)) rfl rfl (.there (.there .here)) hf hlk (conjR (ReC.lkpTo rfl rfl rfl (.there (.there .here)) hf hlk) (by simp) ?_)
    | refine W1.ldAll rfl (.there .here) rfl ?_
    | refine W1.ldG rfl l0 ?_
    | refine W1.lenSlc rfl ok.hv.up.1 ?_
    | refine WC.permM (perm_L _ _ _ _ _ _ _) (f57_A (bT := bT) (b3 := b3) (p := p) (n := t.stops.toNat) (c9 := [.nilslice, .nilslice, .nilslice]) ok hT val hp rfl rfl ?_ (fun L' bl cf c9 y2 hTm hL' => ?_))
    | refine WC.seq ?_
    | refine WC.region ?_
    | refine WC.draw ?_
    | refine WC.skip ?_
    | refine WC.cond rfl (fun hc => ?_) (fun hc => ?_)
    | refine WO.nil ?_
    | refine WO.cons ?_
    | refine WD.nil ?_
    | refine WD.cons0 ?_
    | refine WD.consH ?_
    | refine WD.consR ?_
    | refine W1.mv rfl ?_
    | refine W1.nilck rfl ?_
    | refine W1.fa rfl ?_
    | refine W1.ext rfl rfl ?_
    | refine W1.mkfn rfl rfl ?_
    | refine W1.alloc rfl (fun bb => ?_)
    | refine W1.st (v := .agg (I3 x y z)) rfl rfl rfl rfl .here (Nat.le_of_ble_eq_true rfl) ?_
    | refine W1.st (v := .agg (I3 x y z)) rfl rfl rfl rfl (.there (.there .here)) (Nat.le_of_ble_eq_true rfl) ?_
    | refine WC.ret ?_
  · refine Exists.intro _ (And.intro (Res.cell rfl (.there (.there .here)) (rdB_all rfl) Res.nil) ⟨_, [_, _, _], (perm_n4 _ _ _ _ _).symm, rfl, x, y, z, rfl⟩)
  · unfold E57
    repeat (first | exact subL.nil _ | refine subL.cons rfl ?_)
  · refine W1.weak hL' ?_
    unfold E57
    repeat' first
      | refine W1.ldG rfl l3 ?_
      | refine W1.lenSlc rfl ok.hc.up.1 ?_
      | refine f57_C (t := t) (f := f) (n := t.stops.toNat) ok hT val hp rfl hTm ?_ (fun L2 x2 z2 hL2 => ?_)
      | refine WC.seq ?_
      | refine WC.draw ?_
      | refine WO.nil ?_
      | refine WO.cons ?_
      | refine WD.cons0 ?_
      | refine W1.mv rfl ?_
      | refine W1.nilck rfl ?_
      | refine W1.fa rfl ?_
    · unfold E57
      repeat (first | exact subL.nil _ | refine subL.cons rfl ?_)
    · refine W1.weak hL2 ?_
      unfold E57 B57
      repeat' first
        | refine W1.ldG rfl l5 (conjR (ReC.ldG rfl rfl l5) (by simp) ?_)
        | refine W1.ldAll rfl (.there (.there .here)) hp.1 (conjR (ReC.ldAll rfl rfl (.there (.there .here)) hp.1) (by simp) ?_)
        | refine W1.ldAll rfl .here rfl (conjR (ReC.ldAll rfl rfl .here rfl) (by simp) ?_)
        | refine W1.ldAll rfl .here rfl ?_
        | refine W1.mapup rfl rfl rfl (.there (.there (.there (.there (Up.of_mem (List.mem_append_right _ (List.mem_cons_self ..))))))) key6 (Ints6 hp) (Ints3 x2 y2 z2) ?_
        | refine WC.ret ?_
        | refine WC.seq ?_
        | refine WC.region ?_
        | refine WO.nil ?_
        | refine WO.cons ?_
        | refine WD.nil ?_
        | refine WD.cons0 ?_
        | refine WD.consH ?_
        | refine WD.consR ?_
        | refine W1.mv rfl ?_
        | refine W1.nilck rfl ?_
        | refine W1.fa rfl ?_
        | refine W1.st (v := .agg (I3 x2 y2 z2)) rfl rfl rfl rfl (.there (.there (.there .here))) (Nat.le_of_ble_eq_true rfl) ?_
      refine Exists.intro _ (And.intro (Res.cell rfl (.there (.there (.there .here))) (rdB_all rfl) Res.nil) ⟨_, _, perm_M _ _ _ _ _ _ _ _, rfl, x2, y2, z2, rfl⟩)
end Go.Ax
end
section
namespace Go.Ax
open Go.Ax.Ir
attribute [local irreducible] W1 WO WC WD WF WV
def C79 (bT b1 b2 b3 b4 : Nat) (yv : V) (p : List V) (M : Mem) : Mem :=
  (b1, Arr1 [.ptr bT 0] {}) :: (b2, Arr1 [yv] {}) :: (b3, Arr1 p {}) :: (b4, Arr1 [.func 79 [] [.ptr b1 0, .ptr b2 0, .ptr b3 0, .ptr b4 0]] {}) :: M
def Round (g : Gz) (t : TrD) (bT b1 b2 b3 b4 : Nat) (yv : V) (I J : Mem → Prop) : Prop := ∀ p f M, PlOk t p f → I M →
  WV tbl g yv [.agg p] (C79 bT b1 b2 b3 b4 yv p M) fun v M' => ∃ tt M2, v = .bool tt ∧ M' = C79 bT b1 b2 b3 b4 yv p M2 ∧ (tt = true → I M2) ∧ (tt = false → J M2)
def ir79o : ICode := cS2 (cS1 (cS2 (cS2 ir79.code)))
set_option maxHeartbeats 2000000 in
theorem f79 {g : Gz} {t : TrD} {km yv : V} {bT b1 b2 b3 b4 : Nat} {I J : Mem → Prop} (ok : TrOk g t) (hT : g bT = some (.arr (t.cells ++ [km]) {})) (val : TrVal t) (hy : Round g t bT b1 b2 b3 b4 yv I J) :
    ∀ (k : Nat) (c : Int) (p : List V) (f : Nat → Int) (M : Mem), 0 ≤ c → c + k = t.nc → PlOk t p f → I M →
      WF tbl g 79 [.int .i64 c, .ptr b1 0, .ptr b2 0, .ptr b3 0, .ptr b4 0] (C79 bT b1 b2 b3 b4 yv p M) fun v M' => ∃ tt p' f' M2, v = .bool tt ∧ M' = C79 bT b1 b2 b3 b4 yv p' M2 ∧ PlOk t p' f' ∧ (tt = true → I M2) ∧ (tt = false → J M2) := by
  have hnv := val.nv
  have hnc := val.nc
  have l0 : rdAgg g false bT 0 1 = some t.sv := by simp [rdAgg, hT, TrD.cells]
  have l3 : rdAgg g false bT 3 1 = some t.sc := by simp [rdAgg, hT, TrD.cells]
  intro k
  induction k with
  | zero =>
    intro c p f M hc0 hck hp hI
    have hdec : decide (c = (t.nc : Int)) = true := decide_eq_true (by omega)
    refine WF.intro rfl (Nat.le_of_ble_eq_true rfl) ?_
    repeat' first
      | refine WC.cond_t rfl hdec ?_
      | refine W1.ldG rfl l3 ?_
      | refine W1.lenSlc rfl ok.hc.up.1 ?_
      | refine W1.ldAll rfl (.there (.there .here)) hp.1 ?_
      | (refine W1.callV rfl rfl ((hy p f M hp hI).mono fun v M' => ?_); rintro ⟨tt, M2, rfl, rfl, h1, h2⟩)
      | refine WC.ret ?_
      | refine WC.seq ?_
      | refine WC.region ?_
      | refine WO.nil ?_
      | refine WO.cons ?_
      | refine W1.mv rfl ?_
      | refine W1.nilck rfl ?_
      | refine W1.fa rfl ?_
      | refine W1.eql rfl rfl ?_
      | refine Exists.intro _ (And.intro (Res.tmp rfl Res.nil) ?_)
      | refine W1.ldS rfl .here rfl ?_
      | refine W1.ldS rfl (.there .here) rfl ?_
    exact ⟨tt, p, f, M2, rfl, rfl, hp, h1, h2⟩
  | succ k ih =>
    intro c p f M hc0 hck hp hI
    have hdec : decide (c = (t.nc : Int)) = false := decide_eq_false (by omega)
    refine WF.intro rfl (Nat.le_of_ble_eq_true rfl) ?_
    have loop : ∀ (L : Env) (K : X → Env → Mem → Prop) (M : Mem) (p : List V) (f : Nat → Int), PlOk t p f → I M →
        subL L [(0, .int .i64 c), (1, .ptr b1 0), (2, .ptr b2 0), (3, .ptr b3 0), (4, .ptr b4 0), (25, .int .i64 (t.nv + 1)), (26, .int .i64 0)] →
        (∀ L' M2 p' f', PlOk t p' f' → I M2 → subL L' [(0, .int .i64 c), (3, .ptr b3 0)] → K .normal L' (C79 bT b1 b2 b3 b4 yv p' M2)) →
        (∀ L' M2 p' f', PlOk t p' f' → J M2 → lk L' 6 = some (.bool false) → K .ret L' (C79 bT b1 b2 b3 b4 yv p' M2)) →
        WC tbl g none ir79o L (C79 bT b1 b2 b3 b4 yv p M) K := by
      intro L K M p f hp hI hL hk1 hk2
      refine WC.block ?_
      refine WC.loopE (ι := Int) (fun i => (t.nv + 1 - i).toNat) (fun i => [(0, .int .i64 c), (1, .ptr b1 0), (2, .ptr b2 0), (3, .ptr b3 0), (4, .ptr b4 0), (25, .int .i64 (t.nv + 1)), (26, .int .i64 i)])
        (fun i M' => 0 ≤ i ∧ i ≤ t.nv + 1 ∧ ∃ p f M, PlOk t p f ∧ I M ∧ M' = C79 bT b1 b2 b3 b4 yv p M) ?_ 0 _ _ hL ⟨by omega, by omega, p, f, M, hp, hI, rfl⟩
      rintro i M' ⟨h0, h1, p, f, M, hp, hI, rfl⟩
      by_cases hlt : i < (t.nv : Int) + 1
      · have hdec : decide (i < (t.nv : Int) + 1) = true := decide_eq_true hlt
        have hl := hp.1
        have hm0 : 0 ≤ (i + 1).tmod ((t.nv : Int) + 1) := Int.tmod_nonneg _ (by omega)
        have hm1 : (i + 1).tmod ((t.nv : Int) + 1) < t.nv + 1 := Int.tmod_lt_of_pos _ (by omega)
        unfold C79
        repeat' first
          | refine WC.cond_t rfl hdec ?_
          | refine W1.ldG rfl l0 ?_
          | refine W1.lenSlc rfl ok.hv.up.1 ?_
          | refine W1.iaa rfl rfl (by omega) (by omega) ?_
          | refine W1.rem rfl rfl (by omega) ?_
          | refine WC.seq ?_
          | refine WC.block ?_
          | refine WC.region ?_
          | refine WC.skip ?_
          | refine WO.nil ?_
          | refine WO.cons ?_
          | refine W1.mv rfl ?_
          | refine W1.nilck rfl ?_
          | refine W1.fa rfl ?_
          | refine W1.lss rfl rfl ?_
          | refine W1.ldS rfl .here rfl ?_
          | refine W1.st rfl rfl rfl rfl (.there (.there .here)) (by omega) ?_
          | refine W1.add rfl rfl (by omega) (by omega) ?_
        have hp' := hp.set (i := c.toNat) (by omega) hm0 (by omega)
        repeat' first
          | refine W1.ldAll rfl (.there (.there .here)) hp'.1 ?_
          | (refine W1.callV rfl rfl (WV.func ((f59 ok hT val hp' (c := c) hc0 (by omega)).mono fun v M' => ?_)); rintro ⟨rfl, ta, rfl⟩)
          | (refine W1.callV rfl rfl (WV.func ((ih (c + 1) _ _ M (by omega) (by omega) hp' hI).mono fun v M' => ?_)); rintro ⟨tt, p2, f2, M2, rfl, rfl, hp2, h1', h2'⟩)
          | refine WC.ret ?_
          | refine WC.seq ?_
          | refine WC.region ?_
          | refine WC.skip ?_
          | refine WC.cond_f rfl (by first | assumption | rfl) ?_
          | refine WC.cond rfl (fun hc => ?_) (fun hc => ?_)
          | refine WO.nil ?_
          | refine WO.cons ?_
          | refine W1.guard_y rfl (by first | assumption | rfl) ?_
          | refine W1.guard_n rfl (by first | assumption | rfl) ?_
          | refine W1.guard rfl (fun hc => ?_) (fun hc => ?_)
          | refine W1.pick_t rfl (by first | assumption | rfl) rfl ?_
          | refine W1.pick_f rfl (by first | assumption | rfl) rfl ?_
          | refine W1.mv rfl ?_
          | refine W1.not rfl ?_
          | refine W1.ldS rfl (.there (.there (.there .here))) rfl ?_
          | refine W1.add rfl rfl (by omega) (by omega) ?_
        · exact hk2 _ M2 p2 f2 hp2 (h2' (by simpa using hc)) rfl
        · exact ⟨i + 1, by omega, by repeat (first | exact subL.nil _ | refine subL.cons rfl ?_), by omega, by omega, p2, f2, M2, hp2, h1' (by simpa using hc), rfl⟩
        · exact ⟨i + 1, by omega, by repeat (first | exact subL.nil _ | refine subL.cons rfl ?_), by omega, by omega, _, _, M, hp', hI, rfl⟩
      · have hdec : decide (i < (t.nv : Int) + 1) = false := decide_eq_false hlt
        repeat' first
          | refine WC.cond_f rfl hdec ?_
          | refine WC.seq ?_
          | refine WC.region ?_
          | refine WC.exit ?_
          | refine WO.nil ?_
          | refine WO.cons ?_
          | refine W1.lss rfl rfl ?_
        exact hk1 _ M p f hp hI (by repeat (first | exact subL.nil _ | refine subL.cons rfl ?_))
    repeat' first
      | refine WC.cond_f rfl hdec ?_
      | refine W1.ldG rfl l3 ?_
      | refine W1.ldG rfl l0 ?_
      | refine W1.lenSlc rfl ok.hc.up.1 ?_
      | refine W1.lenSlc rfl ok.hv.up.1 ?_
      | refine loop _ _ M p f hp hI ?_ (fun L' M2 p' f' hp' hI' hL' => ?_) (fun L' M2 p' f' hp' hJ h6 => ?_)
      | refine WC.seq ?_
      | refine WC.region ?_
      | refine WC.skip ?_
      | refine WO.nil ?_
      | refine WO.cons ?_
      | refine W1.mv rfl ?_
      | refine W1.nilck rfl ?_
      | refine W1.fa rfl ?_
      | refine W1.eql rfl rfl ?_
      | refine W1.ldS rfl .here rfl ?_
      | refine W1.add rfl rfl (by omega) (by omega) ?_
    · repeat (first | exact subL.nil _ | refine subL.cons rfl ?_)
    · refine W1.weak hL' ?_
      have hl := hp'.1
      have hz := hp'.set (i := c.toNat) (by omega) (x := 0) (by omega) (by omega)
      unfold C79
      repeat' first
        | refine W1.iaa rfl rfl (by omega) (by omega) ?_
        | refine WC.ret ?_
        | refine WC.seq ?_
        | refine WC.region ?_
        | refine WO.nil ?_
        | refine WO.cons ?_
        | refine W1.mv rfl ?_
        | refine Exists.intro _ (And.intro (Res.tmp rfl Res.nil) ?_)
        | refine W1.st rfl rfl rfl rfl (.there (.there .here)) (by omega) ?_
      exact ⟨true, _, _, M2, rfl, rfl, hz, fun _ => hI', by simp⟩
    · exact ⟨_, Res.tmp h6 Res.nil, false, p', f', M2, rfl, rfl, hp', by simp, fun _ => hJ⟩
end Go.Ax
end
section
namespace Go.Ax
open Go.Ax.Ir
theorem perm_r4 (a b c d : Nat × BP) (l : Mem) : (a :: b :: c :: d :: l).Perm (d :: c :: b :: a :: l) := by
  refine (perm_n4 a b c d l).trans (List.Perm.cons _ ?_)
  exact (List.perm_middle (a := c) (l₁ := [a, b]) (l₂ := l)).trans (List.Perm.cons _ (List.Perm.swap _ _ _))
theorem perm_d4 (a b c d : Nat × BP) (l : Mem) : (a :: b :: c :: d :: l).Perm ([a, b, c, d] ++ l) := List.Perm.refl _
attribute [local irreducible] W1 WO WC WD WF WV
set_option maxHeartbeats 1000000 in
theorem f78 {g : Gz} {t : TrD} {km : V} {bT b1 l : Nat} {I J : Mem → Prop} {M : Mem} (ok : TrOk g t) (hT : g bT = some (.arr (t.cells ++ [km]) {})) (val : TrVal t) (hr : ∀ b2 b3 b4, Round g t bT b1 b2 b3 b4 (.yield l) I J) (hI : I M) :
    WF tbl g 78 [.yield l, .ptr b1 0] ((b1, Arr1 [.ptr bT 0] {}) :: M) fun _ M' => I M' ∨ J M' := by
  refine WF.trim (WF.intro rfl (Nat.le_of_ble_eq_true rfl) ?_)
  repeat' first
    | (refine W1.callV rfl rfl (WV.func (WF.permM (perm_r4 _ _ _ _ _) ((f79 ok hT val (hr _ _ _) t.nc 0 _ (fun _ => 0) M (by omega) (by omega) PlOk.zero hI).mono fun v M' => ?_))); rintro ⟨tt, p', f', M2, rfl, rfl, hp', h1, h2⟩)
    | refine WC.seq ?_
    | refine WC.region ?_
    | refine WO.nil ?_
    | refine WO.cons ?_
    | refine W1.mkfn rfl rfl ?_
    | refine W1.alloc rfl (fun bb => ?_)
    | refine W1.box rfl rfl (fun bb => ?_)
    | refine Exists.intro _ (And.intro Res.nil ?_)
    | refine W1.ldS rfl .here rfl ?_
    | refine W1.st rfl rfl rfl rfl .here (Nat.le_of_ble_eq_true rfl) ?_
  refine ⟨M2, [_, _, _, _], perm_d4 _ _ _ _ _, ?_⟩
  cases tt with
  | true => exact Or.inl (h1 rfl)
  | false => exact Or.inr (h2 rfl)
theorem f56 {g : Gz} {M : Mem} {bT : Nat} : WF tbl g 56 [.ptr bT 0] M fun v M' => ∃ b1, v = .func 78 [] [.ptr b1 0] ∧ M' = (b1, Arr1 [.ptr bT 0] {}) :: M := by
  refine WF.intro rfl (Nat.le_of_ble_eq_true rfl) ?_
  repeat' first
    | refine WC.ret ?_
    | refine WC.seq ?_
    | refine WC.region ?_
    | refine WO.nil ?_
    | refine WO.cons ?_
    | refine W1.mv rfl ?_
    | refine W1.mkfn rfl rfl ?_
    | refine W1.box rfl rfl (fun bb => ?_)
    | refine Exists.intro _ (And.intro (Res.tmp rfl Res.nil) ?_)
  exact ⟨_, rfl, rfl⟩
end Go.Ax
end
section
namespace Go.Ax
open Go.Ax.Ir
theorem WV.trim {ft : FT FnR} {g : Gz} {f : V} {args : List V} {M : Mem} {K : V → Mem → Prop} (h : WV ft g f args M fun v M' => ∃ M1 R, M'.Perm (R ++ M1) ∧ K v M1) : WV ft g f args M K := by
  intro hh hs
  obtain ⟨n, v, h', M', h1, h2, h3, M1, R, hp, hK⟩ := h hh hs
  exact ⟨n, v, h', M1, h1, (h2.perm hp).sub (List.sublist_append_right _ _), ⟨h3.n, h3.keep, fun q hq => h3.from_ q (hp.mem_iff.2 (by simp [hq]))⟩, hK⟩
end Go.Ax
end
section
namespace Go.Ax
open Go.Ax.Ir
def cRa : ICode → ICode
  | .rangef _ _ a _ => a
  | _ => .skip
def cRb : ICode → ICode
  | .rangef _ _ _ b => b
  | _ => .skip
def ir36r : ICode := cBl (cS2 (cS1 (cS2 (cS2 (cS2 (cS2 ir36.code))))))
theorem perm_n9 (a b c d e f h i x : Nat × BP) (l : Mem) : (a :: b :: c :: d :: e :: f :: h :: i :: x :: l).Perm (x :: a :: b :: c :: d :: e :: f :: h :: i :: l) :=
  List.perm_middle (a := x) (l₁ := [a, b, c, d, e, f, h, i]) (l₂ := l)
theorem perm_36 (x a b1 b2 b3 bq l b6 b4 : Nat × BP) (r : Mem) : (x :: a :: b1 :: b2 :: b3 :: bq :: l :: b6 :: b4 :: r).Perm ([a] ++ (b1 :: b2 :: b3 :: bq :: l :: b6 :: b4 :: x :: r)) := by
  refine (List.Perm.swap a x _).trans (List.Perm.cons a ?_)
  exact (List.perm_middle (a := x) (l₁ := [b1, b2, b3, bq, l, b6, b4]) (l₂ := r)).symm
attribute [local irreducible] W1 WO WC WD WF WV
def I36 (L : Env) (bT l b4 b6 bm : Nat) (Mr : Mem) (M : Mem) : Prop := ∃ q : Int, M = (l, LoopAt L [18] (cRa ir36r) (cRb ir36r) .ready .normal) :: (b6, Arr1 [.int .i64 q] {}) :: (b4, Arr1 [.ptr bT 0] {}) :: (bm, MapOf (Ints 6) (Ints 3)) :: Mr
set_option maxHeartbeats 1000000 in
theorem f36_round {g : Gz} {t : TrD} {bT b1 b2 b3 bq l b4 b6 bm : Nat} {L : Env} {Mr : Mem} (ok : TrOk g t) (hT : g bT = some (.arr (t.cells ++ [.map bm]) {})) (val : TrVal t) (hL : subL L [(4, .ptr b4 0), (6, .ptr b6 0)]) :
    Round g t bT b1 b2 b3 bq (.yield l) (I36 L bT l b4 b6 bm Mr) (fun _ => False) := by
  rintro p f M hp ⟨q, rfl⟩
  unfold C79
  refine WV.trim ?_
  refine WV.yield (l := l) (.there (.there (.there (.there .here)))) (L0 := (18, .agg p) :: L) rfl ?_
  refine WC.weak (L' := (18, .agg p) :: [(4, .ptr b4 0), (6, .ptr b6 0)]) (subL.cons rfl (subL.cons (hL 4 _ rfl) (subL.cons (hL 6 _ rfl) (subL.nil _)))) ?_
  repeat' first
    | refine W1.stZ rfl rfl hp.1 hp.sc .here ?_
    | refine WC.region ?_
    | refine WO.nil ?_
    | refine WO.cons ?_
    | refine W1.alloc rfl (fun bb => ?_)
  refine ⟨rfl, _, .there (.there (.there (.there (.there .here)))), ?_⟩
  repeat' first
    | refine W1.ldAll rfl .here hp.1 (conjR (ReC.ldAll rfl rfl .here hp.1) (by simp) ?_)
    | (refine W1.callV rfl rfl (WV.func (WF.permM (perm_n9 _ _ _ _ _ _ _ _ _ _) ((f57 ok hT val hp).mono fun v M' => ?_))); rintro ⟨rfl, x, y, z, rfl⟩)
    | refine And.intro (fun x hx => (List.mem_singleton.1 hx) ▸ (ReC.ldS rfl rfl (.there (.there (.there (.there (.there (.there (.there .here))))))) rfl)) (And.intro (by simp) ?_)
    | refine WC.block ?_
    | refine WC.draw ?_
    | refine WD.nil ?_
    | refine WD.cons0 ?_
    | refine WD.consH ?_
    | refine WD.consR ?_
    | refine W1.fldS rfl rfl ?_
    | refine W1.ldS rfl (.there (.there (.there (.there (.there (.there .here)))))) rfl (conjR (ReC.ldS rfl rfl (.there (.there (.there (.there (.there (.there .here)))))) rfl) (by simp) ?_)
    | refine W1.ldS rfl (.there (.there (.there (.there (.there (.there (.there .here))))))) rfl (conjR (ReC.ldS rfl rfl (.there (.there (.there (.there (.there (.there (.there .here))))))) rfl) (by simp) ?_)
    | refine W1.mnU rfl rfl (fun w => ?_)
    | refine W1.st rfl rfl rfl rfl (.there (.there (.there (.there (.there (.there (.there .here))))))) (Nat.le_of_ble_eq_true rfl) ?_
    | refine WD.cons ?_
  exact ⟨_, _, _, .there (.there (.there (.there (.there (.there .here))))), _, _, perm_36 _ _ _ _ _ _ _ _ _ _, true, _, rfl, rfl, fun _ => ⟨_, rfl⟩, by simp⟩
end Go.Ax
end
section
namespace Go.Ax
open Go.Ax.Ir
attribute [local irreducible] W1 WO WC WD WF WV
theorem f36_range {g : Gz} {t : TrD} {bT bf b4 b6 bm : Nat} {q0 : Int} {L : Env} {Mr : Mem} {K : X → Env → Mem → Prop} (ok : TrOk g t) (val : TrVal t) (hL : subL L [(4, .ptr b4 0), (6, .ptr b6 0)]) (h17 : lkO L (.t 17) = some (.func 78 [] [.ptr bf 0]))
    (hk : ∀ q : Int, K .normal L ((bT, Arr1 (t.cells ++ [.map bm]) {}) :: (b6, Arr1 [.int .i64 q] {}) :: (b4, Arr1 [.ptr bT 0] {}) :: (bm, MapOf (Ints 6) (Ints 3)) :: Mr)) :
    WC tbl g none ir36r L ((bf, Arr1 [.ptr bT 0] {}) :: (b6, Arr1 [.int .i64 q0] {}) :: (b4, Arr1 [.ptr bT 0] {}) :: (bT, Arr1 (t.cells ++ [.map bm]) {}) :: (bm, MapOf (Ints 6) (Ints 3)) :: Mr) K := by
  refine WC.freeze (b := bT) (.there (.there (.there .here))) fun hb => ?_
  refine WC.rangef (ps := [18]) (asg := cRa ir36r) (body := cRb ir36r) h17 fun l => ?_
  refine WV.func (WF.permM (List.Perm.swap _ _ _) ((f78 (I := I36 L bT l b4 b6 bm Mr) (J := fun _ => False) (ok.lessG (Gz.le_add hb)) (Gz.add_eq _ _ _) val (fun b2 b3 bq => f36_round (ok.lessG (Gz.le_add hb)) (Gz.add_eq _ _ _) val hL) ⟨q0, rfl⟩).mono fun v M' => ?_))
  rintro (⟨q, rfl⟩ | h)
  · exact ⟨.ready, .normal, _, by simp, .here, hk q⟩
  · exact h.elim
set_option maxHeartbeats 1000000 in
theorem f36 {g : Gz} {M : Mem} {t : TrD} (ok : TrOk g t) : WF tbl g 36 [.agg t.cells] M fun v M' => M' = M ∧ ∃ n e, v = .tup [.int .i64 n, .int .i64 e] := by
  refine WF.trimS (WF.intro rfl (Nat.le_of_ble_eq_true rfl) ?_)
  repeat' first
    | exact absurd (by simpa using ‹(!decide (e = 0)) = false›) he
    | refine W1.box rfl ok.sc5 (fun b1 => ?_)
    | (refine W1.callV rfl rfl (WV.func ((f55 ok).mono fun v M' => ?_)); rintro (⟨e, he, rfl, rfl⟩ | ⟨bT, bm, rfl, rfl, val⟩))
    | (refine W1.callV rfl rfl (WV.func (f56.mono fun v M' => ?_)); rintro ⟨bf, rfl, rfl⟩)
    | refine W1.ldAll rfl .here rfl ?_
    | refine f36_range (bT := bT) (bf := bf) (bm := bm) ok val ?_ rfl (fun q => ?_)
    | refine WC.ret ?_
    | refine WC.seq ?_
    | refine WC.block ?_
    | refine WC.region ?_
    | refine WC.skip ?_
    | refine WC.cond_f rfl (by first | assumption | rfl) ?_
    | refine WC.cond rfl (fun hc => ?_) (fun hc => ?_)
    | refine WO.nil ?_
    | refine WO.cons ?_
    | refine W1.mv rfl ?_
    | refine W1.ext rfl rfl ?_
    | refine W1.gtr rfl rfl ?_
    | refine W1.neq rfl rfl ?_
    | refine W1.alloc rfl (fun bb => ?_)
    | refine Exists.intro _ (And.intro (Res.tmp rfl (Res.tmp rfl Res.nil)) ?_)
    | refine W1.st rfl rfl rfl rfl .here (Nat.le_of_ble_eq_true rfl) ?_
    | refine W1.ldS rfl (.there .here) rfl ?_
  all_goals try exact ⟨by repeat (first | exact Suf.refl | apply Suf.cons), _, _, rfl⟩
  repeat (first | exact subL.nil _ | refine subL.cons rfl ?_)
end Go.Ax
end
section
namespace Go.Ax
open Go.Ax.Ir
def ir27r : ICode := cBl (cS2 (cS1 (cS2 (cS2 (cS2 (cS2 (cS2 ir27.code)))))))
theorem f58two {g : Gz} {M M1 : Mem} {b : Nat} {x y : Int} (h : At M b (Arr1 [.int .i64 x, .int .i64 y] {}) M1) :
    WF tbl g 58 [.slice b 0 2 (some 2) 1] M fun v M' => M' = M ∧ ∃ k : Int, v = .int .i64 k :=
  f58 (num := fun j => if j = 0 then x else y) (Slc.row h (by simp) (fun j hj k hk => by
    obtain rfl : k = 0 := by omega
    rcases j with _ | _ | j
    · rfl
    · rfl
    · omega)) (by omega)
theorem perm_n10 (a b c d e f h i j x : Nat × BP) (l : Mem) : (a :: b :: c :: d :: e :: f :: h :: i :: j :: x :: l).Perm (x :: a :: b :: c :: d :: e :: f :: h :: i :: j :: l) :=
  List.perm_middle (a := x) (l₁ := [a, b, c, d, e, f, h, i, j]) (l₂ := l)
theorem perm_27 (bs b10 x b9 b1 b2 b3 bq l b8 b7 b6 : Nat × BP) (r : Mem) : (bs :: b10 :: x :: b9 :: b1 :: b2 :: b3 :: bq :: l :: b8 :: b7 :: b6 :: r).Perm ([bs, b10, b9] ++ (b1 :: b2 :: b3 :: bq :: l :: b8 :: b7 :: b6 :: x :: r)) :=
  List.Perm.cons _ (List.Perm.cons _ ((List.Perm.swap b9 x _).trans (List.Perm.cons b9 (List.perm_middle (a := x) (l₁ := [b1, b2, b3, bq, l, b8, b7, b6]) (l₂ := r)).symm)))
theorem spl6 {p q : List V} (h : p.length = 6) (h2 : q.length = 6) : splice q 0 p = p := by simp [splice, h, h2]
theorem PlOk.intL {t : TrD} {p : List V} {f : Nat → Int} (h : PlOk t p f) : IntL p := by
  obtain ⟨cs, e, _, hi⟩ := Ints6 h
  cases e; exact hi
attribute [local irreducible] W1 WO WC WD WF WV
def I27 (L : Env) (bT l b6 b7 b8 bm : Nat) (Mr : Mem) (M : Mem) : Prop := ∃ (x y z : Int) (p7 : List V), p7.length = 6 ∧ IntL p7 ∧ M = (l, LoopAt L [23] (cRa ir27r) (cRb ir27r) .ready .normal) :: (b8, Arr1 (I3 x y z) {}) :: (b7, Arr1 p7 {}) :: (b6, Arr1 [.ptr bT 0] {}) :: (bm, MapOf (Ints 6) (Ints 3)) :: Mr
set_option maxHeartbeats 1000000 in
theorem f27_round {g : Gz} {t : TrD} {bT b1 b2 b3 bq l b6 b7 b8 bm : Nat} {L : Env} {Mr : Mem} (ok : TrOk g t) (hT : g bT = some (.arr (t.cells ++ [.map bm]) {})) (val : TrVal t) (hL : subL L [(6, .ptr b6 0), (7, .ptr b7 0), (8, .ptr b8 0)]) :
    Round g t bT b1 b2 b3 bq (.yield l) (I27 L bT l b6 b7 b8 bm Mr) (fun _ => False) := by
  rintro p f M hp ⟨x, y, z, p7, hp7, hi7, rfl⟩
  unfold C79
  refine WV.trim ?_
  refine WV.yield (l := l) (.there (.there (.there (.there .here)))) (L0 := (23, .agg p) :: L) rfl ?_
  refine WC.weak (L' := (23, .agg p) :: [(6, .ptr b6 0), (7, .ptr b7 0), (8, .ptr b8 0)]) (subL.cons rfl (subL.cons (hL 6 _ rfl) (subL.cons (hL 7 _ rfl) (subL.cons (hL 8 _ rfl) (subL.nil _))))) ?_
  repeat' first
    | refine W1.stZ rfl rfl hp.1 hp.sc .here ?_
    | refine WC.region ?_
    | refine WO.nil ?_
    | refine WO.cons ?_
    | refine W1.alloc rfl (fun bb => ?_)
  refine ⟨rfl, _, .there (.there (.there (.there (.there .here)))), ?_⟩
  repeat' first
    | refine W1.ldAll rfl .here hp.1 ?_
    | refine W1.ldAll rfl (.there (.there (.there .here))) hp.1 (conjR (ReC.ldAll rfl rfl (.there (.there (.there .here))) hp.1) (by simp) ?_)
    | refine W1.ldAll rfl (.there .here) rfl (conjR (ReC.ldAll rfl rfl (.there .here) rfl) (by simp) ?_)
    | (refine W1.callV rfl rfl (WV.func (WF.permM (perm_n10 _ _ _ _ _ _ _ _ _ _ _) ((f57 ok hT val hp).mono fun v M' => ?_))); rintro ⟨rfl, x2, y2, z2, rfl⟩)
    | (refine W1.callV rfl rfl (WV.func ((f58two .here).mono fun v M' => ?_)); rintro ⟨rfl, k58, rfl⟩)
    | refine And.intro (fun x hx => (List.mem_singleton.1 hx) ▸ (ReC.ldAll rfl rfl (.there .here) rfl)) (And.intro (by simp) ?_)
    | refine WC.seq ?_
    | refine WC.block ?_
    | refine WC.region ?_
    | refine WC.draw ?_
    | refine WC.skip ?_
    | refine WC.cond rfl (fun hc => ?_) (fun hc => ?_)
    | refine WO.nil ?_
    | refine WO.cons ?_
    | refine WD.nil ?_
    | refine WD.consH ?_
    | refine WD.consR ?_
    | refine W1.fa rfl ?_
    | refine W1.lss rfl rfl ?_
    | refine W1.bldS rfl rfl rfl (fun bb => ?_)
    | refine W1.alloc rfl (fun bb => ?_)
    | refine W1.ldS rfl .here rfl ?_
    | refine W1.ldS rfl (.there (.there (.there (.there (.there (.there (.there (.there .here)))))))) rfl ?_
    | refine W1.subU rfl rfl (fun w => ?_)
    | refine W1.st (v := .agg (I3 x2 y2 z2)) rfl rfl rfl rfl .here (Nat.le_of_ble_eq_true rfl) ?_
    | refine W1.st (v := .agg p) rfl rfl hp.1 hp.sc (.there (.there (.there (.there (.there (.there (.there (.there (.there (.there .here)))))))))) (by omega) ?_
    | refine W1.st (v := .agg (I3 x2 y2 z2)) rfl rfl rfl rfl (.there (.there (.there (.there (.there (.there (.there (.there (.there .here))))))))) (Nat.le_of_ble_eq_true rfl) ?_
    | refine WD.cons ?_
  · exact ⟨_, _, _, .there (.there (.there (.there (.there (.there (.there (.there .here))))))), _, _, perm_27 _ _ _ _ _ _ _ _ _ _ _ _ _, true, _, rfl, rfl, fun _ => ⟨x2, y2, z2, splice p7 0 p, by rw [spl6 hp.1 hp7]; exact hp.1, by rw [spl6 hp.1 hp7]; exact hp.intL, rfl⟩, by simp⟩
  · exact ⟨_, _, _, .there (.there (.there (.there (.there (.there (.there (.there .here))))))), _, _, perm_27 _ _ _ _ _ _ _ _ _ _ _ _ _, true, _, rfl, rfl, fun _ => ⟨x, y, z, p7, hp7, hi7, rfl⟩, by simp⟩
end Go.Ax
end
section
namespace Go.Ax
open Go.Ax.Ir
attribute [local irreducible] W1 WO WC WD WF WV
theorem f27_range {g : Gz} {t : TrD} {bT bf b6 b7 b8 bm : Nat} {x y z : Int} {p7 : List V} {L : Env} {Mr : Mem} {K : X → Env → Mem → Prop} (ok : TrOk g t) (val : TrVal t) (hp7 : p7.length = 6) (hi7 : IntL p7) (hL : subL L [(6, .ptr b6 0), (7, .ptr b7 0), (8, .ptr b8 0)]) (h22 : lkO L (.t 22) = some (.func 78 [] [.ptr bf 0]))
    (hk : ∀ x y z p7, p7.length = 6 → IntL p7 → K .normal L ((bT, Arr1 (t.cells ++ [.map bm]) {}) :: (b8, Arr1 (I3 x y z) {}) :: (b7, Arr1 p7 {}) :: (b6, Arr1 [.ptr bT 0] {}) :: (bm, MapOf (Ints 6) (Ints 3)) :: Mr)) :
    WC tbl g none ir27r L ((bf, Arr1 [.ptr bT 0] {}) :: (b8, Arr1 (I3 x y z) {}) :: (b7, Arr1 p7 {}) :: (b6, Arr1 [.ptr bT 0] {}) :: (bT, Arr1 (t.cells ++ [.map bm]) {}) :: (bm, MapOf (Ints 6) (Ints 3)) :: Mr) K := by
  refine WC.freeze (b := bT) (.there (.there (.there (.there .here)))) fun hb => ?_
  refine WC.rangef (ps := [23]) (asg := cRa ir27r) (body := cRb ir27r) h22 fun l => ?_
  refine WV.func (WF.permM (List.Perm.swap _ _ _) ((f78 (I := I27 L bT l b6 b7 b8 bm Mr) (J := fun _ => False) (ok.lessG (Gz.le_add hb)) (Gz.add_eq _ _ _) val (fun b2 b3 bq => f27_round (ok.lessG (Gz.le_add hb)) (Gz.add_eq _ _ _) val hL) ⟨x, y, z, p7, hp7, hi7, rfl⟩).mono fun v M' => ?_))
  rintro (⟨x, y, z, p7, hp7, hi7, rfl⟩ | h)
  · exact ⟨.ready, .normal, _, by simp, .here, hk x y z p7 hp7 hi7⟩
  · exact h.elim
end Go.Ax
end
section
namespace Go.Ax
open Go.Ax.Ir
theorem W1.slcaAll {ft : FT FnR} {g : Gz} {L : Env} {M : Mem} {K : Env → Mem → Prop} {d len e : Nat} {x : Opd} {b : Nat} {cs : List V} {a : BA} {M' : Mem} (hx : lkO L x = some (.ptr b 0)) (hat : At M b (Arr1 cs a) M') (hl : len * e ≤ cs.length) (h : K ((d, .slice b 0 len (some len) e) :: L) M) :
    W1 ft g ⟨some d, .slca len e x none none none, none⟩ L M K :=
  W1.read (v := .slice b 0 len (some len) e) rfl (fun τ hp hh hs => by
    obtain ⟨_, ⟨ob, e1, e2⟩, _⟩ := hs.mem _ hat.mem
    have e3 : hp.get b = some (.arr cs a) := by rw [e1, show ob = .arr cs a from e2]
    simp [rdO, slcaF, hh.opd hx, e3, hl, bounds, lo?]) h
theorem Up.same' {M M' : Mem} {b : Nat} {p p' : BP} (h : Up M b p p' M') : p = p' → M' = M := by
  induction h with
  | here => intro e; subst e; rfl
  | there _ ih => intro e; rw [ih e]
theorem Up.same {M M' : Mem} {b : Nat} {p : BP} (h : Up M b p p M') : M' = M := h.same' rfl
theorem W1.cpyI {ft : FT FnR} {g : Gz} {L : Env} {M : Mem} {K : Env → Mem → Prop} {x y : Opd} {b n n2 : Nat} {cap : Option Nat} {vx : V} {cs xs : List V} {M' : Mem} (hd : lkO L x = some (.slice b 0 n cap 1)) (hy : lkO L y = some vx) (hsrc : Src g M 1 vx xs n2) (hsc : xs.all V.scalar = true) (hx2 : xs.length = n2) (hcs : cs.length = n)
    (hu : Up M b (Arr1 cs {}) (Arr1 (splice cs 0 (xs.take (min n2 n * 1))) {}) M') {d : Nat} (h : ∀ q : Int, K ((d, .int .i64 q) :: L) M') : W1 ft g ⟨some d, .cpy 1 x y, none⟩ L M K := by
  refine W1.heavy rfl (fun f args e => by cases e) fun τ hp hl hs => ?_
  obtain ⟨_, ⟨ob, h1, h2⟩, _⟩ := hs.mem _ hu.mem
  obtain rfl : ob = .arr cs {} := h2
  obtain ⟨s1, k1⟩ := hs.put hu (blk := .arr (splice cs 0 (xs.take (min n2 n * 1))) {}) rfl
  have hsc2 : (xs.take (min n2 n * 1)).all V.scalar = true := List.all_eq_true.2 fun v hv => List.all_eq_true.1 hsc v (List.mem_of_mem_take hv)
  by_cases h0 : min n2 n = 0
  · have e : splice cs 0 (xs.take (min n2 n * 1)) = cs := by rw [h0]; simp [splice]
    rw [e] at hu
    obtain rfl := hu.same
    refine ⟨.int .i64 0, hp, _, ?_, hs, Kp.refl _ _, h _⟩
    simp only [hvO, hl.opd hd, hl.opd hy, copyF, hsrc hp hs]
    rw [if_pos (Nat.beq_refl _), if_pos (by simpa using h0)]
  · refine ⟨.int .i64 (min n2 n : Nat), _, M', ?_, s1, k1, h _⟩
    simp only [hvO, hl.opd hd, hl.opd hy, copyF, hsrc hp hs]
    rw [if_pos (Nat.beq_refl _), if_neg (by simpa using h0)]
    unfold Hp.wr
    rw [h1]
    have h5 : 0 + (xs.take (min n2 n * 1)).length ≤ cs.length := by simp; omega
    simp only [hsc2]
    simp [h5]
    omega
attribute [local irreducible] W1 WO WC WD WF WV
def ir27l : ICode := cS2 (cS1 (cS2 (cS2 (cS2 (cS2 (cS2 (cS2 (cS2 (cS2 ir27.code)))))))))
set_option maxHeartbeats 1000000 in
theorem f27_less {g : Gz} {bs n b8 : Nat} {cs : List V} {M : Mem} {L : Env} {K : X → Env → Mem → Prop} (hn : n ≤ 6) (hcs : cs.length = n) (hci : IntL cs)
    (hL : subL L [(2, .slice bs 0 n (some n) 1), (49, .slice bs 0 n (some n) 1), (50, .int .i64 n), (51, .int .i64 0), (8, .ptr b8 0)])
    (hk : ∀ L' cs, cs.length = n → IntL cs → subL L' [(2, .slice bs 0 n (some n) 1), (8, .ptr b8 0)] → K .normal L' ((bs, Arr1 cs {}) :: M)) :
    WC tbl g none ir27l L ((bs, Arr1 cs {}) :: M) K := by
  refine WC.block ?_
  refine WC.loopE (ι := Int) (fun i => (n - i).toNat) (fun i => [(2, .slice bs 0 n (some n) 1), (49, .slice bs 0 n (some n) 1), (50, .int .i64 n), (51, .int .i64 i), (8, .ptr b8 0)]) (fun i M' => 0 ≤ i ∧ i ≤ n ∧ ∃ cs : List V, cs.length = n ∧ IntL cs ∧ M' = (bs, Arr1 cs {}) :: M) ?_ 0 _ _ hL ⟨by omega, by omega, cs, hcs, hci, rfl⟩
  rintro i M' ⟨h0, h1, cs, hcs, hci, rfl⟩
  by_cases hlt : i < (n : Int)
  · have hdec : decide (i < (n : Int)) = true := decide_eq_true hlt
    obtain ⟨q, hq⟩ := hci.get (i := 0 + i.toNat * 1) (by omega)
    repeat' first
      | refine WC.cond_t rfl hdec ?_
      | refine W1.ia rfl rfl (by omega) (by omega) ?_
      | refine W1.ldS rfl .here hq ?_
      | refine WC.seq ?_
      | refine WC.block ?_
      | refine WC.region ?_
      | refine WC.skip ?_
      | refine WO.nil ?_
      | refine WO.cons ?_
      | refine W1.mv rfl ?_
      | refine W1.lss rfl rfl ?_
      | refine W1.st rfl rfl rfl rfl .here (by omega) ?_
      | refine W1.add (a := i) rfl rfl (by omega) (by omega) ?_
      | refine W1.subU rfl rfl (fun w => ?_)
    exact ⟨i + 1, by omega, by repeat (first | exact subL.nil _ | refine subL.cons rfl ?_), by omega, by omega, _, (spl_len (by rw [hcs]; show 0 + i.toNat * 1 + 1 ≤ n; omega)).trans hcs, hci.set, rfl⟩
  · have hdec : decide (i < (n : Int)) = false := decide_eq_false hlt
    repeat' first
      | refine WC.cond_f rfl hdec ?_
      | refine WC.seq ?_
      | refine WC.region ?_
      | refine WC.exit ?_
      | refine WO.nil ?_
      | refine WO.cons ?_
      | refine W1.lss rfl rfl ?_
    exact hk _ cs hcs hci (by repeat (first | exact subL.nil _ | refine subL.cons rfl ?_))
end Go.Ax
end
section
namespace Go.Ax
open Go.Ax.Ir
theorem src6 {g : Gz} {M M' : Mem} {b : Nat} {cap : Option Nat} {cs : List V} (h : cs.length = 6) (hm : At M b (Arr1 cs {}) M') : Src g M 1 (.slice b 0 6 cap 1) cs 6 := by
  have h6 := Src.row (g := g) (o := 0) (n := 6) (e := 1) (cap := cap) hm (by omega)
  rwa [List.drop_zero, List.take_of_length_le (by omega)] at h6
theorem int6 : IntL Z6 := fun v hv => by
  simp only [Z6, List.mem_cons, List.mem_nil_iff, or_false] at hv
  exact ⟨0, by rcases hv with h | h | h | h | h | h <;> exact h⟩
theorem perm_m6 (x a b c d e f : Nat × BP) (l : Mem) : (x :: a :: b :: c :: d :: e :: f :: l).Perm ([a, b, c, d, e, f] ++ (x :: l)) :=
  (List.perm_middle (a := x) (l₁ := [a, b, c, d, e, f]) (l₂ := l)).symm
attribute [local irreducible] W1 WO WC WD WF WV
set_option maxHeartbeats 2000000 in
theorem f27 {g : Gz} {M : Mem} {t : TrD} (ok : TrOk g t) : WF tbl g 27 [.agg t.cells] M fun v M' => ∃ s R k a b e, v = .tup [s, .int .i64 a, .int .i64 b, .int .i64 e] ∧ OwnC (.sl (List.replicate 1 .int)) s R k ∧ k ≤ 1000 ∧ M' = toM R ++ M := by
  refine WF.trim (WF.intro rfl (Nat.le_of_ble_eq_true rfl) ?_)
  repeat' first
    | exact absurd (by simpa using ‹(!decide (e = 0)) = false›) he
    | refine W1.box rfl ok.sc5 (fun b1 => ?_)
    | (refine W1.callV rfl rfl (WV.func ((f55 ok).mono fun v M' => ?_)); rintro (⟨e, he, rfl, rfl⟩ | ⟨bT, bm, rfl, rfl, val⟩))
    | (refine W1.callV rfl rfl (WV.func (f56.mono fun v M' => ?_)); rintro ⟨bf, rfl, rfl⟩)
    | refine W1.ldAll rfl .here rfl ?_
    | refine f27_range (bT := bT) (bf := bf) (bm := bm) ok val rfl ?_ ?_ rfl (fun x y z p7 hp7 hi7 => ?_)
    | refine WC.ret ?_
    | refine Exists.intro _ (And.intro (Res.tmp rfl (Res.tmp rfl (Res.tmp rfl (Res.tmp rfl Res.nil)))) ?_)
    | refine W1.lenSlc rfl ok.hc.up.1 ?_
    | refine W1.mksl rfl rfl (by omega) (by omega) (by have := val.nc; simp only [limit]; omega) (by have := val.nc; simp only [limit]; omega) rfl (fun bs => ?_)
    | refine W1.slcaAll rfl (.there (.there (.there .here))) (by omega) ?_
    | refine W1.cpyI (n2 := 6) (xs := p7) rfl rfl ?_ ?_ hp7 ?_ .here (fun q => ?_)
    | refine W1.len rfl ?_
    | refine f27_less (n := t.nc) (b8 := bb) ?_ ?_ ?_ ?_ (fun L' cs hcs hci hL' => ?_)
    | refine WC.seq ?_
    | refine WC.block ?_
    | refine WC.region ?_
    | refine WC.draw ?_
    | refine WC.skip ?_
    | refine WC.cond_f rfl (by first | assumption | rfl) ?_
    | refine WC.cond rfl (fun hc => ?_) (fun hc => ?_)
    | refine WO.nil ?_
    | refine WO.cons ?_
    | refine WD.cons0 ?_
    | refine W1.mv rfl ?_
    | refine W1.fa rfl ?_
    | refine W1.ext rfl rfl ?_
    | refine W1.neq rfl rfl ?_
    | refine W1.bld rfl rfl ?_
    | refine W1.alloc rfl (fun bb => ?_)
    | refine W1.st (v := .agg [.int .i64 (-1), .int .i64 0, .int .i64 0]) rfl rfl rfl rfl .here (Nat.le_of_ble_eq_true rfl) ?_
    | refine W1.st rfl rfl rfl rfl .here (Nat.le_of_ble_eq_true rfl) ?_
    | refine W1.ldS rfl (.there (.there .here)) rfl ?_
    | refine W1.ldS rfl (.there (.there (.there (.there (.there .here))))) rfl ?_
  · exact ⟨M, [_, _], List.Perm.refl _, _, [], 1, _, _, _, rfl, OwnC.nil (by decide), by decide, rfl⟩
  · exact int6
  · repeat (first | exact subL.nil _ | refine subL.cons rfl ?_)
  · exact src6 hp7 (.there (.there (.there .here)))
  · exact List.all_eq_true.2 fun v hv => by obtain ⟨n, rfl⟩ := hi7 v hv; rfl
  · exact rep_len _ _
  · exact val.nc
  · have := val.nc
    exact (spl_len (by simp [rep_len]; omega)).trans (by rw [rep_len]; omega)
  · intro v hv
    simp only [splice, List.mem_append] at hv
    rcases hv with (hv | hv) | hv
    · exact rep_int _ 0 v (List.mem_of_mem_take hv)
    · exact hi7 v (List.mem_of_mem_take hv)
    · exact rep_int _ 0 v (List.mem_of_mem_drop hv)
  · have e : ((t.nc : Int)).toNat = t.nc := by omega
    rw [e]
    repeat (first | exact subL.nil _ | refine subL.cons rfl ?_)
  · refine W1.weak hL' ?_
    repeat' first
      | refine WC.ret ?_
      | refine Exists.intro _ (And.intro (Res.tmp rfl (Res.tmp rfl (Res.tmp rfl (Res.tmp rfl Res.nil)))) ?_)
      | refine WD.nil ?_
      | refine WD.cons0 ?_
      | refine WD.consR ?_
      | refine W1.mv rfl ?_
      | refine W1.fa rfl ?_
      | refine W1.ldS rfl (.there (.there .here)) rfl (conjR (ReC.ldS rfl rfl (.there (.there .here)) rfl) (by simp) ?_)
    exact ⟨(bs, Arr1 cs {}) :: M, [_, _, _, _, _, _], perm_m6 _ _ _ _ _ _ _ _, _, [(bs, cs)], t.nc * 1 + 1, _, _, _, rfl, OwnC.ints (by decide) (by omega) hci (by have := val.nc; omega) (fun c hc => by cases hc; exact Nat.le_refl _), by have := val.nc; omega, rfl⟩
end Go.Ax
end
section
namespace Go.Ax
open Go.Ax.Ir
def PL (nc : Nat) (cs : List V) (k : Nat) : Prop := cs.length = k * 2 ∧ ∀ i, i < k → ∃ a b, (cs.drop (i * 2)).take 2 = [.int .i64 a, .int .i64 b] ∧ 0 ≤ a ∧ a < b ∧ b < nc
theorem PL.one {nc : Nat} {a b : Int} (h : 0 ≤ a ∧ a < b ∧ b < nc) : PL nc [.int .i64 a, .int .i64 b] 1 :=
  ⟨rfl, fun i hi => ⟨a, b, by rw [show i = 0 from (by omega)]; rfl, h⟩⟩
theorem PL.app {nc k : Nat} {cs : List V} {a b : Int} (hp : PL nc cs k) (h : 0 ≤ a ∧ a < b ∧ b < nc) : PL nc (cs.drop 0 ++ [.int .i64 a, .int .i64 b]) (k + 1) := by
  obtain ⟨hl, hr⟩ := hp
  refine ⟨by simp [hl]; omega, fun i hi => ?_⟩
  rw [List.drop_zero]
  by_cases hk : i < k
  · obtain ⟨x, y, e, h2⟩ := hr i hk
    refine ⟨x, y, ?_, h2⟩
    rw [List.drop_append, List.take_append, e]
    have h1 : (cs.drop (i * 2)).length = cs.length - i * 2 := by simp
    rw [show 2 - (cs.drop (i * 2)).length = 0 by rw [h1]; omega]
    simp
  · obtain rfl : i = k := by omega
    refine ⟨a, b, ?_, h⟩
    rw [List.drop_append, List.drop_eq_nil_of_le (by omega), hl]
    simp
theorem perm_rot3' (x y z : Nat × BP) (l : Mem) : (x :: y :: z :: l).Perm ([y, z] ++ (x :: l)) :=
  (List.perm_middle (a := x) (l₁ := [y, z]) (l₂ := l)).symm
attribute [local irreducible] W1 WO WC WD WF WV
def ir62o : ICode := cS2 (cS1 (cS2 (cS2 (cS2 ir62.code))))
def row62 (t : TrD) (s : V) (m : Nat) : List V := [t.sv, .int .i64 t.stops, .int .i64 t.handle, t.sc, s, .map m]
def J62 (t : TrD) (b5 m : Nat) (M : Mem) (x : Nat × V) (M' : Mem) : Prop := x.1 ≤ t.na ∧
  ((x.2 = .nilslice ∧ M' = (b5, Arr1 (row62 t .nilslice m) {}) :: M) ∨
   (∃ bA k cs, x.2 = .slice bA 0 k none 2 ∧ PL t.nc cs k ∧ k ≠ 0 ∧ k ≤ x.1 ∧ M' = (bA, Arr1 cs {}) :: (b5, Arr1 (row62 t x.2 m) {}) :: M))
set_option maxHeartbeats 2000000 in
theorem f62_some {g : Gz} {M : Mem} {t : TrD} {b2 b4 b5 m : Nat} {but : Int} {L : Env} {K : X → Env → Mem → Prop} (ok : TrOk g t) (val : TrVal t)
    (hL : subL L [(1, .int .i64 but), (2, .ptr b2 0), (4, .ptr b4 0), (5, .ptr b5 0), (20, t.sa), (21, .int .i64 t.na), (22, .int .i64 0)])
    (hk : ∀ L' s M', subL L' [(2, .ptr b2 0), (4, .ptr b4 0), (5, .ptr b5 0)] → J62 t b5 m M (t.na, s) M' → K .normal L' M') :
    WC tbl g none ir62o L ((b5, Arr1 (row62 t .nilslice m) {}) :: M) K := by
  have hna := val.na
  refine WC.block ?_
  refine WC.loopT (ι := Nat × V) (fun x => t.na - x.1) (fun x => [(1, .int .i64 but), (2, .ptr b2 0), (4, .ptr b4 0), (5, .ptr b5 0), (20, t.sa), (21, .int .i64 t.na), (22, .int .i64 x.1)]) (J62 t b5 m M) ?_ (0, .nilslice) _ _ hL ⟨Nat.zero_le _, Or.inl ⟨rfl, rfl⟩⟩
  rintro ⟨i, s⟩ M' ⟨h1, hJ⟩
  dsimp only at h1 hJ ⊢
  by_cases hlt : (i : Int) < t.na
  · have hdec : decide ((i : Int) < t.na) = true := decide_eq_true hlt
    obtain ⟨pa, pb, hrow0, hpq⟩ := val.pair i (by omega)
    have hrow : t.pair ((i : Nat) : Int).toNat = [.int .i64 pa, .int .i64 pb] := by simpa using hrow0
    rcases hJ with ⟨rfl, rfl⟩ | ⟨bA, k, cs, rfl, hpl, hk0, hki, rfl⟩
    · unfold row62
      repeat' first
        | refine WC.cond_t rfl hdec ?_
        | refine WC.cond rfl (fun hc => ?_) (fun hc => ?_)
        | refine W1.iaRow rfl rfl ok.ha.up (by omega) (by omega) (fun b o hrd => ?_)
        | refine W1.ldV (vs := [.int .i64 pa, .int .i64 pb]) rfl rfl (hrow ▸ hrd) ?_
        | refine W1.ldAll rfl .here rfl ?_
        | refine W1.bldS rfl rfl rfl (fun bs => ?_)
        | refine W1.appN (n := 1) rfl rfl (Src.row .here (Nat.le_of_ble_eq_true rfl)) (by decide) (by decide) (fun b' => ?_)
        | refine WC.seq ?_
        | refine WC.block ?_
        | refine WC.region ?_
        | refine WC.skip ?_
        | refine WO.nil ?_
        | refine WO.cons ?_
        | refine W1.mv rfl ?_
        | refine W1.fa rfl ?_
        | refine W1.lss rfl rfl ?_
        | refine W1.eql rfl rfl ?_
        | refine W1.alloc rfl (fun bb => ?_)
        | refine W1.ldS rfl (.there .here) rfl ?_
        | refine W1.st rfl rfl rfl rfl .here (Nat.le_of_ble_eq_true rfl) ?_
        | refine W1.st rfl rfl rfl rfl (.there (.there (.there .here))) (Nat.le_of_ble_eq_true rfl) ?_
        | refine W1.shrU rfl rfl (by omega) (fun w => ?_)
        | refine W1.andU rfl rfl (fun w => ?_)
        | refine W1.add rfl rfl (by omega) (by omega) ?_
      · refine ⟨(i + 1, _), _, [_, _], by first | omega | (simp only; omega), by repeat (first | exact subL.nil _ | refine subL.cons rfl ?_), perm_rot3' _ _ _ _, by first | omega | (simp only; omega), Or.inr ⟨b', 1, _, rfl, PL.one hpq, by decide, by first | omega | (simp only; omega), rfl⟩⟩
      · refine ⟨(i + 1, _), _, [_], by first | omega | (simp only; omega), by repeat (first | exact subL.nil _ | refine subL.cons rfl ?_), List.Perm.refl _, by first | omega | (simp only; omega), Or.inl ⟨rfl, rfl⟩⟩
    · unfold row62
      have hlen := hpl.1
      repeat' first
        | refine WC.cond_t rfl hdec ?_
        | refine WC.cond rfl (fun hc => ?_) (fun hc => ?_)
        | refine W1.iaRow rfl rfl ok.ha.up (by omega) (by omega) (fun b o hrd => ?_)
        | refine W1.ldV (vs := [.int .i64 pa, .int .i64 pb]) rfl rfl (hrow ▸ hrd) ?_
        | refine W1.ldAll rfl .here rfl ?_
        | refine W1.bldS rfl rfl rfl (fun bs => ?_)
        | refine W1.app (n := 1) rfl rfl (Src.row .here (Nat.le_of_ble_eq_true rfl)) (by decide) (.there (.there .here)) (by omega) (by show (k + 1) * 16 ≤ 35184372088832; omega) (fun b' => ?_)
        | refine WC.seq ?_
        | refine WC.block ?_
        | refine WC.region ?_
        | refine WC.skip ?_
        | refine WO.nil ?_
        | refine WO.cons ?_
        | refine W1.mv rfl ?_
        | refine W1.fa rfl ?_
        | refine W1.lss rfl rfl ?_
        | refine W1.eql rfl rfl ?_
        | refine W1.alloc rfl (fun bb => ?_)
        | refine W1.ldS rfl (.there (.there .here)) rfl ?_
        | refine W1.st rfl rfl rfl rfl .here (Nat.le_of_ble_eq_true rfl) ?_
        | refine W1.st rfl rfl rfl rfl (.there (.there (.there .here))) (Nat.le_of_ble_eq_true rfl) ?_
        | refine W1.shrU rfl rfl (by omega) (fun w => ?_)
        | refine W1.andU rfl rfl (fun w => ?_)
        | refine W1.add rfl rfl (by omega) (by omega) ?_
      · refine ⟨(i + 1, _), _, [_, _], by first | omega | (simp only; omega), by repeat (first | exact subL.nil _ | refine subL.cons rfl ?_), perm_rot3' _ _ _ _, by first | omega | (simp only; omega), Or.inr ⟨b', k + 1, _, rfl, PL.app hpl hpq, by first | omega | (simp only; omega), by first | omega | (simp only; omega), rfl⟩⟩
      · refine ⟨(i + 1, _), _, [_], by first | omega | (simp only; omega), by repeat (first | exact subL.nil _ | refine subL.cons rfl ?_), List.Perm.refl _, by first | omega | (simp only; omega), Or.inr ⟨bA, k, cs, rfl, hpl, hk0, by first | omega | (simp only; omega), rfl⟩⟩
  · have hdec : decide ((i : Int) < t.na) = false := decide_eq_false hlt
    obtain rfl : i = t.na := by omega
    repeat' first
      | refine WC.cond_f rfl hdec ?_
      | refine WC.seq ?_
      | refine WC.region ?_
      | refine WC.exit ?_
      | refine WO.nil ?_
      | refine WO.cons ?_
      | refine W1.lss rfl rfl ?_
    exact hk _ s _ (by repeat (first | exact subL.nil _ | refine subL.cons rfl ?_)) ⟨h1, hJ⟩
end Go.Ax
end
section
namespace Go.Ax
open Go.Ax.Ir
def TrD.but (t : TrD) (s : V) (k : Nat) (cs : List V) : TrD := { t with sa := s, na := k, pair := fun i => (cs.drop (i * 2)).take 2 }
theorem TrOk.butN {g : Gz} {t : TrD} (ok : TrOk g t) : TrOk g (t.but .nilslice 0 []) :=
  { ok with ha := ⟨Or.inl ⟨rfl, rfl⟩, by decide, fun i hi => absurd hi (Nat.not_lt_zero _)⟩, na := Nat.zero_le _, sa := rfl, arow := fun i hi => absurd hi (Nat.not_lt_zero _) }
theorem TrVal.butN {t : TrD} (ok : TrVal t) : TrVal (t.but .nilslice 0 []) :=
  { ok with na := Nat.zero_le _, pair := fun i hi => absurd hi (Nat.not_lt_zero _) }
theorem TrOk.butS {g : Gz} {t : TrD} {b k : Nat} {cs : List V} (ok : TrOk g t) (val : TrVal t) (h : PL t.nc cs k) (hk : k ≤ t.na) (hb : g b = some (.arr cs {})) : TrOk g (t.but (.slice b 0 k none 2) k cs) :=
  { ok with
    ha := ⟨Or.inr ⟨b, 0, none, rfl, by simp, fun hp hs => ⟨cs, {}, (hs.fz b _ hb).1, (hs.fz b _ hb).2, fun i hi j hj => by
        obtain ⟨x, y, e, _⟩ := h.2 i hi
        have h1 : ((cs.drop (i * 2)).take 2)[j]? = cs[0 + i * 2 + j]? := by rw [List.getElem?_take, if_pos hj, List.getElem?_drop, Nat.zero_add]
        have h2 : j < ((cs.drop (i * 2)).take 2).length := by rw [e]; exact hj
        show cs[0 + i * 2 + j]? = some ((((cs.drop (i * 2)).take 2)[j]?).getD .undef)
        rw [h1.symm, List.getElem?_eq_getElem h2]
        rfl⟩⟩, by decide, fun i hi => by
        obtain ⟨x, y, e, _⟩ := h.2 i hi
        show ((cs.drop (i * 2)).take 2).length = 2
        rw [e]; rfl⟩
    na := Nat.le_trans hk ok.na
    sa := rfl
    arow := fun i hi => by
      obtain ⟨x, y, e, _⟩ := h.2 i hi
      exact ⟨x, y, e⟩ }
theorem TrVal.butS {t : TrD} {b k : Nat} {cs : List V} (ok : TrVal t) (h : PL t.nc cs k) (hk : k ≤ t.na) : TrVal (t.but (.slice b 0 k none 2) k cs) :=
  { ok with
    na := Nat.le_trans hk ok.na
    pair := fun i hi => h.2 i hi }
theorem bk1 {g : Gz} {o : IOper} {L : Env} {k0 : Nat} {Mk : Mem} {pre : List (Nat × Mem)} (h : (k0, Mk) ∈ pre) (hr : ReC g o L Mk) : ∀ k ∈ [k0], ∃ Mk, (k, Mk) ∈ pre ∧ ReC g o L Mk := fun k hk => by
  rw [List.mem_singleton.1 hk]; exact ⟨_, h, hr⟩
attribute [local irreducible] W1 WO WC WD WF WV
def ir62r : ICode := cBl (cS2 (cS1 (cS2 (cS2 (cS2 (cS2 ir62.code))))))
def I62 (L : Env) (bT l b4 b2 bm : Nat) (Mr : Mem) (M : Mem) : Prop := M = (l, LoopAt L [42] (cRa ir62r) (cRb ir62r) .ready .normal) :: (b4, Arr1 [.bool false] {}) :: (b2, Arr1 [.ptr bT 0] {}) :: (bm, MapOf (Ints 6) (Ints 3)) :: Mr
def J62r (L : Env) (bT l b4 b2 bm : Nat) (Mr : Mem) (M : Mem) : Prop := M = (l, LoopAt L [42] (cRa ir62r) (cRb ir62r) .done .ret) :: (b4, Arr1 [.bool true] {}) :: (b2, Arr1 [.ptr bT 0] {}) :: (bm, MapOf (Ints 6) (Ints 3)) :: Mr
set_option maxHeartbeats 1000000 in
theorem f62_round {g : Gz} {t t' : TrD} {km : V} {bT b5 b1 b2' b3 bq l b4 b2 bm : Nat} {L : Env} {Mr : Mem} (ok0 : TrOk g t) (hT0 : g bT = some (.arr (t.cells ++ [km]) {})) (ok : TrOk g t') (hT : g b5 = some (.arr (t'.cells ++ [.map bm]) {})) (val : TrVal t') (hL : subL L [(2, .ptr b2 0), (4, .ptr b4 0), (5, .ptr b5 0)]) :
    Round g t' b5 b1 b2' b3 bq (.yield l) (I62 L bT l b4 b2 bm Mr) (J62r L bT l b4 b2 bm Mr) := by
  have l3 : rdAgg g false bT 3 1 = some t.sc := by simp [rdAgg, hT0, TrD.cells]
  rintro p f M hp rfl
  unfold C79
  refine WV.trim ?_
  refine WV.yield (l := l) (.there (.there (.there (.there .here)))) (L0 := (42, .agg p) :: L) rfl ?_
  refine WC.weak (L' := (42, .agg p) :: [(2, .ptr b2 0), (4, .ptr b4 0), (5, .ptr b5 0)]) (subL.cons rfl (subL.cons (hL 2 _ rfl) (subL.cons (hL 4 _ rfl) (subL.cons (hL 5 _ rfl) (subL.nil _))))) ?_
  repeat' first
    | refine W1.stZ rfl rfl hp.1 hp.sc .here ?_
    | refine WC.region ?_
    | refine WO.nil ?_
    | refine WO.cons ?_
    | refine W1.alloc rfl (fun bb => ?_)
  refine ⟨rfl, _, .there (.there (.there (.there (.there .here)))), ?_⟩
  repeat' first
    | refine W1.ldAll rfl .here hp.1 (conjR (ReC.ldAll rfl rfl .here hp.1) (by simp) ?_)
    | (refine W1.callV rfl rfl (WV.func (WF.permM (perm_n9 _ _ _ _ _ _ _ _ _ _) ((f57 ok hT val hp).mono fun v M' => ?_))); rintro ⟨rfl, x, y, z, rfl⟩)
    | refine W1.ldS rfl (.there (.there (.there (.there (.there (.there (.there (.there .here)))))))) rfl (And.intro (ReC.ldS rfl rfl (.there (.there (.there (.there (.there (.there (.there (.there .here)))))))) rfl) (And.intro (bk1 (.head _) (ReC.ldS rfl rfl (.there (.there (.there (.there (.there (.there (.there .here))))))) rfl)) ?_))
    | refine W1.ldG rfl l3 (And.intro (ReC.ldG rfl rfl l3) (And.intro (bk1 (.head _) (ReC.ldG rfl rfl l3)) ?_))
    | refine W1.lenSlc rfl ok0.hc.up.1 ?_
    | refine WC.ret ?_
    | refine WC.seq ?_
    | refine WC.block ?_
    | refine WC.region ?_
    | refine WC.draw ?_
    | refine WC.skip ?_
    | refine WC.cond rfl (fun hc => ?_) (fun hc => ?_)
    | refine WO.nil ?_
    | refine WO.cons ?_
    | refine WD.nil ?_
    | refine WD.cons0 ?_
    | refine WD.consH ?_
    | refine WD.consR ?_
    | refine W1.nilck rfl ?_
    | refine W1.fa rfl ?_
    | refine W1.fldS rfl rfl ?_
    | refine W1.eql rfl rfl ?_
    | refine W1.st rfl rfl rfl rfl (.there (.there (.there (.there (.there (.there (.there .here))))))) (Nat.le_of_ble_eq_true rfl) ?_
  · exact ⟨_, _, _, .there (.there (.there (.there (.there (.there .here))))), _, _, perm_36 _ _ _ _ _ _ _ _ _ _, false, _, rfl, rfl, by simp, fun _ => rfl⟩
  · exact ⟨_, _, _, .there (.there (.there (.there (.there (.there .here))))), _, _, perm_36 _ _ _ _ _ _ _ _ _ _, true, _, rfl, rfl, fun _ => rfl, by simp⟩
theorem f62_range {g : Gz} {t t' : TrD} {km : V} {bT bf b5 b4 b2 bm : Nat} {L : Env} {Mr : Mem} {K : X → Env → Mem → Prop} (ok0 : TrOk g t) (hT0 : g bT = some (.arr (t.cells ++ [km]) {})) (ok : TrOk g t') (val : TrVal t') (hL : subL L [(2, .ptr b2 0), (4, .ptr b4 0), (5, .ptr b5 0)]) (h41 : lkO L (.t 41) = some (.func 78 [] [.ptr bf 0]))
    (hk1 : K .normal L ((b5, Arr1 (t'.cells ++ [.map bm]) {}) :: (b4, Arr1 [.bool false] {}) :: (b2, Arr1 [.ptr bT 0] {}) :: (bm, MapOf (Ints 6) (Ints 3)) :: Mr))
    (hk2 : K .ret L ((b5, Arr1 (t'.cells ++ [.map bm]) {}) :: (b4, Arr1 [.bool true] {}) :: (b2, Arr1 [.ptr bT 0] {}) :: (bm, MapOf (Ints 6) (Ints 3)) :: Mr)) :
    WC tbl g none ir62r L ((bf, Arr1 [.ptr b5 0] {}) :: (b5, Arr1 (t'.cells ++ [.map bm]) {}) :: (b4, Arr1 [.bool false] {}) :: (b2, Arr1 [.ptr bT 0] {}) :: (bm, MapOf (Ints 6) (Ints 3)) :: Mr) K := by
  refine WC.freeze (b := b5) (.there .here) fun hb => ?_
  have hT1 := Gz.le_add (o := .arr (t'.cells ++ [.map bm]) {}) hb _ _ hT0
  refine WC.rangef (ps := [42]) (asg := cRa ir62r) (body := cRb ir62r) h41 fun l => ?_
  refine WV.func (WF.permM (List.Perm.swap _ _ _) ((f78 (I := I62 L bT l b4 b2 bm Mr) (J := J62r L bT l b4 b2 bm Mr) (ok.lessG (Gz.le_add hb)) (Gz.add_eq _ _ _) val (fun b2 b3 bq => f62_round (ok0.lessG (Gz.le_add hb)) hT1 (ok.lessG (Gz.le_add hb)) (Gz.add_eq _ _ _) val hL) rfl).mono fun v M' => ?_))
  rintro (rfl | rfl)
  · exact ⟨.ready, .normal, _, by simp, .here, hk1⟩
  · exact ⟨.done, .ret, _, by simp, .here, hk2⟩
def ir62e : ICode := cS2 (cS2 (cS2 (cS2 ir62.code)))
theorem f62_end {g : Gz} {t t' : TrD} {km : V} {bT b5 b4 b2 bm : Nat} {L : Env} {Mr : Mem} {K : V → Mem → Prop} (ok0 : TrOk g t) (hT0 : g bT = some (.arr (t.cells ++ [km]) {})) (ok : TrOk g t') (val : TrVal t') (hL : subL L [(2, .ptr b2 0), (4, .ptr b4 0), (5, .ptr b5 0)])
    (hk : ∀ q : Bool, K (.bool q) ((b5, Arr1 (t'.cells ++ [.map bm]) {}) :: (b4, Arr1 [.bool q] {}) :: (b2, Arr1 [.ptr bT 0] {}) :: (bm, MapOf (Ints 6) (Ints 3)) :: Mr)) :
    WC tbl g none ir62e L ((b5, Arr1 (t'.cells ++ [.map bm]) {}) :: (b4, Arr1 [.bool false] {}) :: (b2, Arr1 [.ptr bT 0] {}) :: (bm, MapOf (Ints 6) (Ints 3)) :: Mr) (retK g ir62.res K) := by
  refine WC.weak hL ?_
  repeat' first
    | (refine W1.callV rfl rfl (WV.func (f56.mono fun v M' => ?_)); rintro ⟨bf, rfl, rfl⟩)
    | refine f62_range (bT := bT) (bf := bf) (bm := bm) ok0 hT0 ok val ?_ rfl ?_ ?_
    | refine WC.ret ?_
    | refine Exists.intro _ (And.intro (Res.cell rfl (.there .here) (fun blk hb => by rw [hb]; rfl) Res.nil) ?_)
    | refine WC.seq ?_
    | refine WC.block ?_
    | refine WC.region ?_
    | refine WO.nil ?_
    | refine WO.cons ?_
    | refine W1.st rfl rfl rfl rfl (.there .here) (Nat.le_of_ble_eq_true rfl) ?_
  · repeat (first | exact subL.nil _ | refine subL.cons rfl ?_)
  · exact hk false
  · exact hk true
end Go.Ax
end
section
namespace Go.Ax
open Go.Ax.Ir
theorem perm_m2 (x a b : Nat × BP) (l : Mem) : (x :: a :: b :: l).Perm (a :: b :: x :: l) := (List.perm_middle (a := x) (l₁ := [a, b]) (l₂ := l)).symm
theorem perm_62 (m b5 b4 b2 : Nat × BP) (l : Mem) : (m :: b5 :: b4 :: b2 :: l).Perm (b5 :: b4 :: b2 :: m :: l) := (List.perm_middle (a := m) (l₁ := [b5, b4, b2]) (l₂ := l)).symm
attribute [local irreducible] W1 WO WC WD WF WV
theorem f62_fin {g : Gz} {M M' : Mem} {t : TrD} {bT bm b2 b4 b5 m : Nat} {s : V} {L' : Env} (ok : TrOk g t) (hT : g bT = some (.arr (t.cells ++ [.map bm]) {})) (val : TrVal t) (hL' : subL L' [(2, .ptr b2 0), (4, .ptr b4 0), (5, .ptr b5 0)])
    (hJ : J62 t b5 m ((b4, Arr1 [.bool false] {}) :: (b2, Arr1 [.ptr bT 0] {}) :: (m, MapOf (Ints 6) (Ints 3)) :: M) (t.na, s) M') : WC tbl g none ir62e L' M' (retK g ir62.res fun v M' => Suf M M' ∧ ∃ q, v = .bool q) := by
  obtain ⟨_, hJ⟩ := hJ
  dsimp only at hJ
  rcases hJ with ⟨rfl, rfl⟩ | ⟨bA, k, cs, rfl, hpl, hk0, hki, rfl⟩
  · exact f62_end (t' := t.but .nilslice 0 []) ok hT ok.butN val.butN hL' (fun q => ⟨by repeat (first | exact Suf.refl | apply Suf.cons), q, rfl⟩)
  · refine WC.freeze .here fun hb => ?_
    refine WC.mono (f62_end (t' := t.but (.slice bA 0 k none 2) k cs) (K := fun v M1 => Suf M ((bA, Arr1 cs {}) :: M1) ∧ ∃ q, v = .bool q) (ok.lessG (Gz.le_add hb)) (Gz.le_add (o := .arr cs {}) hb _ _ hT) ((ok.lessG (Gz.le_add hb)).butS val hpl hki (Gz.add_eq _ _ _)) (val.butS hpl hki) hL' (fun q => ⟨by repeat (first | exact Suf.refl | apply Suf.cons), q, rfl⟩)) fun x L1 M1 h => ?_
    cases x with
    | normal => obtain ⟨vs, hr, hK⟩ := h; exact ⟨vs, fun τ hh hl hs => hr τ hh hl (hs.freeze .here), hK⟩
    | ret => obtain ⟨vs, hr, hK⟩ := h; exact ⟨vs, fun τ hh hl hs => hr τ hh hl (hs.freeze .here), hK⟩
    | _ => exact h
set_option maxHeartbeats 1000000 in
theorem f62 {g : Gz} {M : Mem} {t : TrD} {bT bm : Nat} {but : Int} (ok : TrOk g t) (hT : g bT = some (.arr (t.cells ++ [.map bm]) {})) (val : TrVal t) :
    WF tbl g 62 [.ptr bT 0, .int .i64 but] M fun v M' => M' = M ∧ ∃ q, v = .bool q := by
  have l6 : rdAgg g true bT 0 6 = some (.agg (t.cells ++ [.map bm])) := by simp [rdAgg, rdG, hT, TrD.cells]
  have l4 : rdAgg g false bT 4 1 = some t.sa := by simp [rdAgg, hT, TrD.cells]
  refine WF.trimS (WF.intro rfl (Nat.le_of_ble_eq_true rfl) ?_)
  repeat' first
    | refine W1.ldG rfl l6 ?_
    | refine W1.ldG rfl l4 ?_
    | refine W1.mkmapOf (Ints 6) (Ints 3) (fun m => ?_)
    | refine W1.st rfl rfl rfl (ok.sc6 _ rfl) .here (Nat.le_of_ble_eq_true rfl) ?_
    | refine W1.st rfl rfl rfl rfl (.there .here) (Nat.le_of_ble_eq_true rfl) ?_
    | refine W1.lenSlc rfl ok.ha.up.1 ?_
    | refine WC.permM (perm_62 _ _ _ _ _) (f62_some (t := t) (but := but) ok val (subL.cons rfl (subL.cons rfl (subL.cons rfl (subL.cons rfl (subL.cons rfl (subL.cons rfl (subL.cons rfl (subL.nil _)))))))) (fun L' s M' hL' hJ => f62_fin ok hT val hL' hJ))
    | refine WC.seq ?_
    | refine WC.region ?_
    | refine WO.nil ?_
    | refine WO.cons ?_
    | refine W1.mv rfl ?_
    | refine W1.nilck rfl ?_
    | refine W1.fa rfl ?_
    | refine W1.alloc rfl (fun bb => ?_)
    | refine W1.box rfl rfl (fun bb => ?_)
    | refine W1.ldS rfl (.there .here) rfl ?_
    | refine W1.ldS rfl (.there (.there (.there .here))) rfl ?_
end Go.Ax
end
section
namespace Go.Ax
open Go.Ax.Ir
def cSc : ICode → ICode
  | .scope a => a
  | _ => .skip
def LstI (s : V) (k : Nat) (X : Mem) : Prop := (s = .nilslice ∧ k = 0 ∧ X = []) ∨ ∃ b cs, s = .slice b 0 k none 1 ∧ cs.length = k ∧ IntL cs ∧ k ≠ 0 ∧ X = [(b, Arr1 cs {})]
theorem LstI.own {s : V} {k : Nat} {X : Mem} (h : LstI s k X) (hk : k ≤ 100) : ∃ R, X = toM R ∧ OwnC (.sl (List.replicate 1 .int)) s R (k + 1) := by
  rcases h with ⟨rfl, rfl, rfl⟩ | ⟨b, cs, rfl, hl, hi, h0, rfl⟩
  · exact ⟨[], rfl, OwnC.nil (by decide)⟩
  · have h := OwnC.ints (w := 1) (n := k) (b := b) (cap := none) (by decide) (by omega) hi (by omega) (by simp)
    rw [Nat.mul_one] at h
    exact ⟨[(b, cs)], rfl, h⟩
theorem perm_l1 (x y : Nat × BP) (l : Mem) : (x :: y :: l).Perm ([y] ++ (x :: l)) := List.Perm.swap _ _ _
theorem IntL1 (a : Int) : IntL [.int .i64 a] := fun v hv => ⟨a, by simpa using hv⟩
attribute [local irreducible] W1 WO WC WD WF WV
def ir30o : ICode := cS2 (cS1 (cS2 (cS2 (cS2 (cSc (cS2 ir30.code))))))
def ir30i : ICode := cS2 (cS1 (cS2 (cBl (cS1 (cS2 (cS2 (cBl (cBl ir30o))))))))
set_option maxHeartbeats 1000000 in
theorem f30_in {g : Gz} {t : TrD} {km : V} {bT b1 : Nat} {i : Int} {s : V} {M : Mem} {L : Env} {K : X → Env → Mem → Prop} (ok : TrOk g t) (hT : g bT = some (.arr (t.cells ++ [km]) {})) (val : TrVal t) (hi0 : 0 ≤ i) (hi1 : i < t.nc)
    (hL : subL L [(1, .ptr b1 0), (2, s), (4, .ptr bT 0), (5, .int .i64 i), (18, .int .i64 t.nc), (19, .int .i64 i), (24, .int .i64 t.nv), (25, .int .i64 0)])
    (hk : ∀ x L', (x = .normal ∨ x = .exit 1) → subL L' [(1, .ptr b1 0), (2, s), (4, .ptr bT 0), (5, .int .i64 i), (18, .int .i64 t.nc), (19, .int .i64 i)] → K x L' M) :
    WC tbl g none ir30i L M K := by
  have hnc := val.nc
  have hnv := val.nv
  refine WC.block ?_
  refine WC.loopT (ι := Int) (fun v => (t.nv - v).toNat) (fun v => [(1, .ptr b1 0), (2, s), (4, .ptr bT 0), (5, .int .i64 i), (18, .int .i64 t.nc), (19, .int .i64 i), (24, .int .i64 t.nv), (25, .int .i64 v)]) (fun v M' => 0 ≤ v ∧ v ≤ t.nv ∧ M' = M) ?_ 0 _ _ hL ⟨by omega, by omega, rfl⟩
  rintro v M' ⟨h0, h1, rfl⟩
  by_cases hlt : v < (t.nv : Int)
  · have hdec : decide (v < (t.nv : Int)) = true := decide_eq_true hlt
    have hp' := (PlOk.zero (t := t)).set (i := i.toNat) (x := v + 1) (by omega) (by omega) (by omega)
    obtain ⟨bq, hbq⟩ := Option.isSome_iff_exists.1 (key6 _ _ (Ints6 hp') (Ints6 (PlOk.zero (t := t))))
    repeat' first
      | refine WC.cond_t rfl hdec ?_
      | refine W1.iaa rfl rfl (by omega) (by omega) ?_
      | (refine W1.callV rfl rfl (WV.func ((f59 ok hT val hp' (c := i) hi0 hi1).mono fun v M' => ?_)); rintro ⟨rfl, ta, rfl⟩)
      | (refine W1.callV rfl rfl (WV.func ((f54 ok hT val hp' (c := i) hi0 hi1).mono fun v M' => ?_)); rintro ⟨rfl, tb, rfl⟩)
      | refine W1.ldAll rfl .here hp'.1 ?_
      | refine W1.eqv rfl rfl hbq ?_
      | refine WC.drop (List.sublist_cons_self _ _) (WC.exit ?_)
      | refine WC.seq ?_
      | refine WC.block ?_
      | refine WC.region ?_
      | refine WC.skip ?_
      | refine WC.cond_f rfl (by first | assumption | rfl) ?_
      | refine WC.cond rfl (fun hc => ?_) (fun hc => ?_)
      | refine WO.nil ?_
      | refine WO.cons ?_
      | refine W1.guard_y rfl (by first | assumption | rfl) ?_
      | refine W1.guard_n rfl (by first | assumption | rfl) ?_
      | refine W1.guard rfl (fun hc => ?_) (fun hc => ?_)
      | refine W1.pick_t rfl (by first | assumption | rfl) rfl ?_
      | refine W1.pick_f rfl (by first | assumption | rfl) rfl ?_
      | refine W1.mv rfl ?_
      | refine W1.lss rfl rfl ?_
      | refine W1.eql rfl rfl ?_
      | refine W1.bld rfl rfl ?_
      | refine W1.alloc rfl (fun bb => ?_)
      | refine W1.st rfl rfl rfl rfl .here (by show 0 + i.toNat * 1 + 1 ≤ 6; omega) ?_
      | refine W1.add rfl rfl (by omega) (by omega) ?_
    all_goals first
      | exact hk _ _ (Or.inr rfl) (by repeat (first | exact subL.nil _ | refine subL.cons rfl ?_))
      | exact ⟨v + 1, _, [_], by omega, by repeat (first | exact subL.nil _ | refine subL.cons rfl ?_), List.Perm.refl _, by omega, by omega, rfl⟩
  · have hdec : decide (v < (t.nv : Int)) = false := decide_eq_false hlt
    repeat' first
      | refine WC.cond_f rfl hdec ?_
      | refine WC.seq ?_
      | refine WC.region ?_
      | refine WC.exit ?_
      | refine WO.nil ?_
      | refine WO.cons ?_
      | refine W1.lss rfl rfl ?_
    exact hk _ _ (Or.inl rfl) (by repeat (first | exact subL.nil _ | refine subL.cons rfl ?_))
def J30 (t : TrD) (Mf : Mem) (x : Nat × V) (M' : Mem) : Prop := x.1 ≤ t.nc ∧ ∃ k X, LstI x.2 k X ∧ k ≤ x.1 ∧ M' = X ++ Mf
theorem f30_out {g : Gz} {t : TrD} {km : V} {bT b1 : Nat} {M : Mem} {L : Env} {K : X → Env → Mem → Prop} (ok : TrOk g t) (hT : g bT = some (.arr (t.cells ++ [km]) {})) (val : TrVal t)
    (hL : subL L [(1, .ptr b1 0), (2, .nilslice), (4, .ptr bT 0), (18, .int .i64 t.nc), (19, .int .i64 0)])
    (hk : ∀ L' s k X, lk L' 2 = some s → LstI s k X → k ≤ t.nc → K .normal L' (X ++ (b1, Arr1 t.cells {}) :: M)) :
    WC tbl g none ir30o L ((b1, Arr1 t.cells {}) :: M) K := by
  have hnc := val.nc
  refine WC.block ?_
  refine WC.loopT (ι := Nat × V) (fun x => t.nc - x.1) (fun x => [(1, .ptr b1 0), (2, x.2), (4, .ptr bT 0), (18, .int .i64 t.nc), (19, .int .i64 x.1)]) (J30 t ((b1, Arr1 t.cells {}) :: M)) ?_ (0, .nilslice) _ _ hL ⟨Nat.zero_le _, 0, [], Or.inl ⟨rfl, rfl, rfl⟩, Nat.le_refl _, rfl⟩
  rintro ⟨i, s⟩ M' ⟨h1, k, X, hX, hki, rfl⟩
  dsimp only at h1 hX hki ⊢
  by_cases hlt : (i : Int) < t.nc
  · have hdec : decide ((i : Int) < t.nc) = true := decide_eq_true hlt
    rcases hX with ⟨rfl, rfl, rfl⟩ | ⟨bA, cs, rfl, hcs, hci, hk0, rfl⟩
    · repeat' first
        | refine WC.cond_t rfl hdec ?_
        | refine W1.lenSlc rfl ok.hv.up.1 ?_
        | refine f30_in (t := t) (bT := bT) (i := i) ok hT val (by omega) hlt (subL.cons rfl (subL.cons rfl (subL.cons rfl (subL.cons rfl (subL.cons rfl (subL.cons rfl (subL.cons rfl (subL.cons rfl (subL.nil _))))))))) (fun x L' hx hL' => ?_)
        | refine WC.seq ?_
        | refine WC.block ?_
        | refine WC.region ?_
        | refine WC.skip ?_
        | refine WO.nil ?_
        | refine WO.cons ?_
        | refine W1.mv rfl ?_
        | refine W1.fa rfl ?_
        | refine W1.lss rfl rfl ?_
        | refine W1.ldS rfl .here rfl ?_
      rcases hx with rfl | rfl
      · refine WC.weak hL' ?_
        repeat' first
          | refine W1.bldS rfl rfl rfl (fun bs => ?_)
          | refine W1.appN (n := 1) rfl rfl (Src.row .here (Nat.le_of_ble_eq_true rfl)) (by decide) (by decide) (fun b' => ?_)
          | refine WC.region ?_
          | refine WO.nil ?_
          | refine WO.cons ?_
          | refine W1.mv rfl ?_
          | refine W1.add rfl rfl (by omega) (by omega) ?_
        exact ⟨(i + 1, _), _, [_], by simp only; omega, by repeat (first | exact subL.nil _ | refine subL.cons rfl ?_), perm_l1 _ _ _, by simp only; omega, 1, _, Or.inr ⟨b', _, rfl, rfl, IntL1 _, by decide, rfl⟩, by simp only; omega, rfl⟩
      · refine WC.weak hL' ?_
        repeat' first
          | refine WC.region ?_
          | refine WO.nil ?_
          | refine WO.cons ?_
          | refine W1.mv rfl ?_
          | refine W1.add rfl rfl (by omega) (by omega) ?_
        exact ⟨(i + 1, _), _, [], by simp only; omega, by repeat (first | exact subL.nil _ | refine subL.cons rfl ?_), List.Perm.refl _, by simp only; omega, 0, [], Or.inl ⟨rfl, rfl, rfl⟩, Nat.zero_le _, rfl⟩
    · repeat' first
        | refine WC.cond_t rfl hdec ?_
        | refine W1.lenSlc rfl ok.hv.up.1 ?_
        | refine f30_in (t := t) (bT := bT) (i := i) ok hT val (by omega) hlt (subL.cons rfl (subL.cons rfl (subL.cons rfl (subL.cons rfl (subL.cons rfl (subL.cons rfl (subL.cons rfl (subL.cons rfl (subL.nil _))))))))) (fun x L' hx hL' => ?_)
        | refine WC.seq ?_
        | refine WC.block ?_
        | refine WC.region ?_
        | refine WC.skip ?_
        | refine WO.nil ?_
        | refine WO.cons ?_
        | refine W1.mv rfl ?_
        | refine W1.fa rfl ?_
        | refine W1.lss rfl rfl ?_
        | refine W1.ldS rfl (.there .here) rfl ?_
      rcases hx with rfl | rfl
      · refine WC.weak hL' ?_
        repeat' first
          | refine W1.bldS rfl rfl rfl (fun bs => ?_)
          | refine W1.app (n := 1) rfl rfl (Src.row .here (Nat.le_of_ble_eq_true rfl)) (by decide) (.there .here) (by omega) (by show (k + 1) * 8 ≤ 35184372088832; omega) (fun b' => ?_)
          | refine WC.region ?_
          | refine WO.nil ?_
          | refine WO.cons ?_
          | refine W1.mv rfl ?_
          | refine W1.add rfl rfl (by omega) (by omega) ?_
        refine ⟨(i + 1, _), _, [_], by simp only; omega, by repeat (first | exact subL.nil _ | refine subL.cons rfl ?_), perm_l1 _ _ _, by simp only; omega, k + 1, _, Or.inr ⟨b', _, rfl, ?_, ?_, by omega, rfl⟩, by simp only; omega, rfl⟩
        · have hX : ∀ X : List V, X.length = 1 → (cs.drop 0 ++ X).length = k + 1 := by intro X hX; simp [hX, hcs]
          exact hX _ rfl
        · exact IntL.app (by simpa using hci) (IntL1 _)
      · refine WC.weak hL' ?_
        repeat' first
          | refine WC.region ?_
          | refine WO.nil ?_
          | refine WO.cons ?_
          | refine W1.mv rfl ?_
          | refine W1.add rfl rfl (by omega) (by omega) ?_
        exact ⟨(i + 1, _), _, [], by simp only; omega, by repeat (first | exact subL.nil _ | refine subL.cons rfl ?_), List.Perm.refl _, by simp only; omega, k, _, Or.inr ⟨bA, cs, rfl, hcs, hci, hk0, rfl⟩, by simp only; omega, rfl⟩
  · have hdec : decide ((i : Int) < t.nc) = false := decide_eq_false hlt
    repeat' first
      | refine WC.cond_f rfl hdec ?_
      | refine WC.seq ?_
      | refine WC.region ?_
      | refine WC.exit ?_
      | refine WO.nil ?_
      | refine WO.cons ?_
      | refine W1.lss rfl rfl ?_
    exact hk _ s k X rfl hX (by omega)
end Go.Ax
end
section
namespace Go.Ax
open Go.Ax.Ir
theorem perm_x3 (a b c : Nat × BP) (X l : Mem) : (a :: (X ++ b :: c :: l)).Perm ([a, b, c] ++ (X ++ l)) :=
  List.Perm.cons _ (List.perm_middle.trans (List.Perm.cons _ List.perm_middle))
attribute [local irreducible] W1 WO WC WD WF WV
set_option maxHeartbeats 1000000 in
theorem f30 {g : Gz} {M : Mem} {t : TrD} (ok : TrOk g t) : WF tbl g 30 [.agg t.cells] M (PostL 1 M) := by
  refine WF.trim (WF.intro rfl (Nat.le_of_ble_eq_true rfl) ?_)
  repeat' first
    | refine W1.box rfl ok.sc5 (fun b1 => ?_)
    | (refine W1.callV rfl rfl (WV.func ((f55 ok).mono fun v M' => ?_)); rintro (⟨e, he, rfl, rfl⟩ | ⟨bT, bm, rfl, rfl, val⟩))
    | refine W1.ldAll rfl .here rfl ?_
    | refine W1.lenSlc rfl ok.hc.up.1 ?_
    | refine WC.freeze .here fun hb => WC.permM (List.Perm.swap _ _ _) (f30_out (t := t) (bT := bT) (b1 := b1) (ok.lessG (Gz.le_add hb)) (Gz.add_eq _ _ _) val (subL.cons rfl (subL.cons rfl (subL.cons rfl (subL.cons rfl (subL.cons rfl (subL.nil _)))))) (fun L' s k X h2 hX hk => ?_))
    | refine WC.ret ?_
    | refine WC.seq ?_
    | refine WC.block ?_
    | refine WC.region ?_
    | refine WC.scope ?_
    | refine WC.skip ?_
    | refine WC.cond_f rfl (by first | assumption | rfl) ?_
    | refine WC.cond rfl (fun hc => ?_) (fun hc => ?_)
    | refine WO.nil ?_
    | refine WO.cons ?_
    | refine W1.mv rfl ?_
    | refine W1.fa rfl ?_
    | refine W1.ext rfl rfl ?_
    | refine W1.neq rfl rfl ?_
    | refine Exists.intro _ (And.intro (Res.tmp rfl (Res.tmp rfl Res.nil)) ?_)
    | refine W1.ldS rfl .here rfl ?_
    | refine W1.ldS rfl (.there (.there .here)) rfl ?_
  all_goals try exact absurd (by simpa using ‹(!decide (e = 0)) = false›) he
  all_goals try exact ⟨M, [_], List.Perm.refl _, _, [], 1, _, rfl, OwnC.nil (by decide), by decide, rfl⟩
  refine W1.weak (L' := [(2, s)]) (subL.cons h2 (subL.nil _)) ?_
  repeat' first
    | refine WC.ret ?_
    | refine WO.nil ?_
    | refine WO.cons ?_
    | refine W1.mv rfl ?_
    | refine Exists.intro _ (And.intro (Res.tmp rfl (Res.tmp rfl Res.nil)) ?_)
  obtain ⟨R, rfl, ho⟩ := hX.own (by have := val.nc; omega)
  exact ⟨_, _, perm_x3 _ _ _ _ _, s, R, k + 1, _, rfl, ho, by have := val.nc; omega, rfl⟩
end Go.Ax
end
section
namespace Go.Ax
open Go.Ax.Ir
theorem shl1 {n : Nat} (h : n ≤ 4) : ∃ k : Int, 0 ≤ k ∧ k ≤ 16 ∧ binI .shl .i64 1 .i64 n = some (.int .i64 k) := by
  have : n = 0 ∨ n = 1 ∨ n = 2 ∨ n = 3 ∨ n = 4 := by omega
  rcases this with rfl | rfl | rfl | rfl | rfl
  · exact ⟨1, by omega, by omega, rfl⟩
  · exact ⟨2, by omega, by omega, rfl⟩
  · exact ⟨4, by omega, by omega, rfl⟩
  · exact ⟨8, by omega, by omega, rfl⟩
  · exact ⟨16, by omega, by omega, rfl⟩
attribute [local irreducible] W1 WO WC WD WF WV
theorem W1.shl1 {ft : FT FnR} {g : Gz} {L : Env} {M : Mem} {K : Env → Mem → Prop} {d n : Nat} {x y : Opd} (hx : lkO L x = some (.int .i64 1)) (hy : lkO L y = some (.int .i64 n)) (hn : n ≤ 4) (h : ∀ k : Int, 0 ≤ k → k ≤ 16 → K ((d, .int .i64 k) :: L) M) : W1 ft g ⟨some d, .bin .shl x y, none⟩ L M K := by
  obtain ⟨k, h0, h1, e⟩ := Go.Ax.shl1 hn
  exact W1.bin hx hy e (h k h0 h1)
def ir33o : ICode := cS2 (cS1 (cS2 (cS2 (cS2 (cS2 ir33.code)))))
def ir33b : ICode := cS1 (cS2 (cS2 (cBl (cBl ir33o))))
def ir33i : ICode := cS2 (cS1 (cS2 (cS2 (cBl ir33b))))
def J33 (na : Nat) (Mf : Mem) (x : Nat × V) (M' : Mem) : Prop := x.1 ≤ na ∧ ∃ k X, LstI x.2 k X ∧ k ≤ x.1 ∧ M' = X ++ Mf
set_option maxHeartbeats 1000000 in
theorem f33_in {g : Gz} {na : Nat} {b1 bT : Nat} {s2 : V} {n20 i : Int} {q : Bool} {M : Mem} {L : Env} {K : X → Env → Mem → Prop} (hna : na ≤ 4)
    (hL : subL L [(1, .ptr b1 0), (2, s2), (4, .ptr bT 0), (5, .bool q), (6, .int .i64 i), (20, .int .i64 n20), (21, .int .i64 i), (26, .int .i64 na), (27, .int .i64 0), (7, .nilslice)])
    (hk : ∀ L' s k X, LstI s k X → k ≤ na → subL L' [(1, .ptr b1 0), (2, s2), (4, .ptr bT 0), (5, .bool q), (6, .int .i64 i), (20, .int .i64 n20), (21, .int .i64 i), (7, s)] → K .normal L' (X ++ M)) :
    WC tbl g none ir33i L M K := by
  refine WC.block ?_
  refine WC.loopT (ι := Nat × V) (fun x => na - x.1) (fun x => [(1, .ptr b1 0), (2, s2), (4, .ptr bT 0), (5, .bool q), (6, .int .i64 i), (20, .int .i64 n20), (21, .int .i64 i), (26, .int .i64 na), (27, .int .i64 x.1), (7, x.2)]) (J33 na M) ?_ (0, .nilslice) _ _ hL ⟨Nat.zero_le _, 0, [], Or.inl ⟨rfl, rfl, rfl⟩, Nat.le_refl _, rfl⟩
  rintro ⟨j, s⟩ M' ⟨h1, k, X, hX, hki, rfl⟩
  dsimp only at h1 hX hki ⊢
  by_cases hlt : (j : Int) < na
  · have hdec : decide ((j : Int) < na) = true := decide_eq_true hlt
    rcases hX with ⟨rfl, rfl, rfl⟩ | ⟨bA, cs, rfl, hcs, hci, hk0, rfl⟩
    · repeat' first
        | refine WC.cond_t rfl hdec ?_
        | refine W1.shrU rfl rfl (by omega) (fun w => ?_)
        | refine W1.andU rfl rfl (fun w => ?_)
        | refine WC.cond rfl (fun hc => ?_) (fun hc => ?_)
        | refine W1.bldS rfl rfl rfl (fun bs => ?_)
        | refine W1.appN (n := 1) rfl rfl (Src.row .here (Nat.le_of_ble_eq_true rfl)) (by decide) (by decide) (fun b' => ?_)
        | refine WC.seq ?_
        | refine WC.block ?_
        | refine WC.region ?_
        | refine WC.skip ?_
        | refine WO.nil ?_
        | refine WO.cons ?_
        | refine W1.mv rfl ?_
        | refine W1.lss rfl rfl ?_
        | refine W1.eql rfl rfl ?_
        | refine W1.add rfl rfl (by omega) (by omega) ?_
      · exact ⟨(j + 1, _), _, [_], by simp only; omega, by repeat (first | exact subL.nil _ | refine subL.cons rfl ?_), perm_l1 _ _ _, by simp only; omega, 1, _, Or.inr ⟨b', _, rfl, rfl, IntL1 _, by decide, rfl⟩, by simp only; omega, rfl⟩
      · exact ⟨(j + 1, _), _, [], by simp only; omega, by repeat (first | exact subL.nil _ | refine subL.cons rfl ?_), List.Perm.refl _, by simp only; omega, 0, [], Or.inl ⟨rfl, rfl, rfl⟩, Nat.zero_le _, rfl⟩
    · repeat' first
        | refine WC.cond_t rfl hdec ?_
        | refine W1.shrU rfl rfl (by omega) (fun w => ?_)
        | refine W1.andU rfl rfl (fun w => ?_)
        | refine WC.cond rfl (fun hc => ?_) (fun hc => ?_)
        | refine W1.bldS rfl rfl rfl (fun bs => ?_)
        | refine W1.app (n := 1) rfl rfl (Src.row .here (Nat.le_of_ble_eq_true rfl)) (by decide) (.there .here) (by omega) (by show (k + 1) * 8 ≤ 35184372088832; omega) (fun b' => ?_)
        | refine WC.seq ?_
        | refine WC.block ?_
        | refine WC.region ?_
        | refine WC.skip ?_
        | refine WO.nil ?_
        | refine WO.cons ?_
        | refine W1.mv rfl ?_
        | refine W1.lss rfl rfl ?_
        | refine W1.eql rfl rfl ?_
        | refine W1.add rfl rfl (by omega) (by omega) ?_
      · refine ⟨(j + 1, _), _, [_], by simp only; omega, by repeat (first | exact subL.nil _ | refine subL.cons rfl ?_), perm_l1 _ _ _, by simp only; omega, k + 1, _, Or.inr ⟨b', _, rfl, ?_, ?_, by omega, rfl⟩, by simp only; omega, rfl⟩
        · have hX : ∀ X : List V, X.length = 1 → (cs.drop 0 ++ X).length = k + 1 := by intro X hX; simp [hX, hcs]
          exact hX _ rfl
        · exact IntL.app (by simpa using hci) (IntL1 _)
      · exact ⟨(j + 1, _), _, [], by simp only; omega, by repeat (first | exact subL.nil _ | refine subL.cons rfl ?_), List.Perm.refl _, by simp only; omega, k, _, Or.inr ⟨bA, cs, rfl, hcs, hci, hk0, rfl⟩, by simp only; omega, rfl⟩
  · have hdec : decide ((j : Int) < na) = false := decide_eq_false hlt
    repeat' first
      | refine WC.cond_f rfl hdec ?_
      | refine WC.seq ?_
      | refine WC.region ?_
      | refine WC.exit ?_
      | refine WO.nil ?_
      | refine WO.cons ?_
      | refine W1.lss rfl rfl ?_
    exact hk _ s k X hX (by omega) (by repeat (first | exact subL.nil _ | refine subL.cons rfl ?_))
end Go.Ax
end
section
namespace Go.Ax
open Go.Ax.Ir
theorem LstI.slc {g : Gz} {s : V} {k : Nat} {X : Mem} (h : LstI s k X) : ∃ num : Nat → Int, ∀ A B, Slc g (A ++ (X ++ B)) s k 1 fun i _ => .int .i64 (num i) := by
  rcases h with ⟨rfl, rfl, rfl⟩ | ⟨b, cs, rfl, hl, hi, h0, rfl⟩
  · exact ⟨fun _ => 0, fun A B => Or.inl ⟨rfl, rfl⟩⟩
  · refine ⟨fun i => match cs[i]? with | some (.int _ n) => n | _ => 0, fun A B => Slc.row (At.app .here) (by simp) fun i hik j hj => ?_⟩
    obtain rfl : j = 0 := by omega
    obtain ⟨q, hq⟩ := hi.get (i := i) (by omega)
    simp only [Nat.mul_one, Nat.add_zero, hq]
theorem perm_x4 (a b c : Nat × BP) (X l : Mem) : (a :: (X ++ b :: c :: l)).Perm ((a :: (X ++ [b, c])) ++ l) := by
  rw [List.cons_append, List.append_assoc]; exact List.Perm.refl _
attribute [local irreducible] W1 WO WC WD WF WV
def J33o (n20 : Int) (na : Nat) (Mf : Mem) (x : Int × Bool × V) (M' : Mem) : Prop := 0 ≤ x.1 ∧ x.1 ≤ n20 ∧ ∃ k X, LstI x.2.2 k X ∧ k ≤ na ∧ M' = X ++ Mf
set_option maxHeartbeats 2000000 in
theorem f33_out {g : Gz} {t : TrD} {bT bm b1 : Nat} {n20 : Int} {M : Mem} {L : Env} {K : X → Env → Mem → Prop} (ok : TrOk g t) (hT : g bT = some (.arr (t.cells ++ [.map bm]) {})) (val : TrVal t) (h0 : 0 ≤ n20) (h16 : n20 ≤ 16)
    (hL : subL L [(1, .ptr b1 0), (2, .nilslice), (4, .ptr bT 0), (5, .bool false), (20, .int .i64 n20), (21, .int .i64 0)])
    (hk : ∀ L' q s k X, LstI s k X → k ≤ t.na → subL L' [(2, s), (5, .bool q)] → K .normal L' (X ++ (b1, Arr1 t.cells {}) :: M)) :
    WC tbl g none ir33o L ((b1, Arr1 t.cells {}) :: M) K := by
  have hna := val.na
  refine WC.block ?_
  refine WC.loopT (ι := Int × Bool × V) (fun x => (n20 - x.1).toNat) (fun x => [(1, .ptr b1 0), (2, x.2.2), (4, .ptr bT 0), (5, .bool x.2.1), (20, .int .i64 n20), (21, .int .i64 x.1)]) (J33o n20 t.na ((b1, Arr1 t.cells {}) :: M)) ?_ (0, false, .nilslice) _ _ hL ⟨by simp only; omega, by simp only; omega, 0, [], Or.inl ⟨rfl, rfl, rfl⟩, Nat.zero_le _, rfl⟩
  rintro ⟨i, q, s2⟩ M' ⟨hi0, hi1, k2, X2, hX2, hk2, rfl⟩
  dsimp only at hi0 hi1 hX2 hk2 ⊢
  by_cases hlt : i < n20
  · have hdec : decide (i < n20) = true := decide_eq_true hlt
    repeat' first
      | refine WC.cond_t rfl hdec ?_
      | refine W1.ldS rfl (At.app .here) rfl ?_
      | refine W1.lenSlc rfl ok.ha.up.1 ?_
      | refine f33_in (na := t.na) (b1 := b1) (bT := bT) (s2 := s2) (n20 := n20) (i := i) (q := q) hna ?_ (fun L' s k X hX hk hL' => ?_)
      | refine WC.seq ?_
      | refine WC.block ?_
      | refine WC.region ?_
      | refine WC.skip ?_
      | refine WO.nil ?_
      | refine WO.cons ?_
      | refine W1.mv rfl ?_
      | refine W1.fa rfl ?_
      | refine W1.lss rfl rfl ?_
    · repeat (first | exact subL.nil _ | refine subL.cons rfl ?_)
    obtain ⟨num, hnum⟩ := hX.slc (g := g)
    obtain ⟨num2, hnum2⟩ := hX2.slc (g := g)
    have hs := hnum [] (X2 ++ (b1, Arr1 t.cells {}) :: M)
    have hs2 := hnum2 X ((b1, Arr1 t.cells {}) :: M)
    rw [List.nil_append] at hs
    refine W1.weak hL' ?_
    repeat' first
      | (refine W1.callV rfl rfl (WV.func (f60.mono fun v M' => ?_)); rintro ⟨rfl, w, rfl⟩)
      | (refine W1.callV rfl rfl (WV.func ((f61 hs hs2 (by omega)).mono fun v M' => ?_)); rintro ⟨rfl, w, rfl⟩)
      | (refine W1.callV rfl rfl (WV.func ((f62 ok hT val).mono fun v M' => ?_)); rintro ⟨rfl, w, rfl⟩)
      | refine W1.lenSlc rfl hs ?_
      | refine W1.lenSlc rfl hs2 ?_
      | refine W1.convU rfl ?_
      | refine WC.seq ?_
      | refine WC.region ?_
      | refine WC.skip ?_
      | refine WC.exit ?_
      | refine WC.cond_t rfl (by first | assumption | rfl) ?_
      | refine WC.cond_f rfl (by first | assumption | rfl) ?_
      | refine WC.cond rfl (fun hc => ?_) (fun hc => ?_)
      | refine WO.nil ?_
      | refine WO.cons ?_
      | refine W1.guard_y rfl (by first | assumption | rfl) ?_
      | refine W1.guard_n rfl (by first | assumption | rfl) ?_
      | refine W1.guard_u rfl ?_
      | refine W1.guard rfl (fun hc => ?_) (fun hc => ?_)
      | refine W1.pick_t rfl (by first | assumption | rfl) rfl ?_
      | refine W1.pick_f rfl (by first | assumption | rfl) rfl ?_
      | refine W1.mv rfl ?_
      | refine W1.gtr rfl rfl ?_
      | refine W1.eql rfl rfl ?_
      | refine W1.add rfl rfl (by omega) (by omega) ?_
    all_goals first
      | exact ⟨(i + 1, q, s2), _, X, by simp only; omega, (subL.cons rfl (subL.cons rfl (subL.cons rfl (subL.cons rfl (subL.cons rfl (subL.cons rfl (subL.nil _))))))), List.Perm.refl _, by simp only; omega, by simp only; omega, k2, X2, hX2, hk2, rfl⟩
      | exact ⟨(i + 1, true, s), _, X2, by simp only; omega, (subL.cons rfl (subL.cons rfl (subL.cons rfl (subL.cons rfl (subL.cons rfl (subL.cons rfl (subL.nil _))))))), List.perm_append_comm_assoc _ _ _, by simp only; omega, by simp only; omega, k, X, hX, hk, rfl⟩
  · have hdec : decide (i < n20) = false := decide_eq_false hlt
    repeat' first
      | refine WC.cond_f rfl hdec ?_
      | refine WC.seq ?_
      | refine WC.region ?_
      | refine WC.exit ?_
      | refine WO.nil ?_
      | refine WO.cons ?_
      | refine W1.lss rfl rfl ?_
    exact hk _ q s2 k2 X2 hX2 hk2 (by repeat (first | exact subL.nil _ | refine subL.cons rfl ?_))
set_option maxHeartbeats 1000000 in
theorem f33 {g : Gz} {M : Mem} {t : TrD} (ok : TrOk g t) : WF tbl g 33 [.agg t.cells] M (PostL 1 M) := by
  refine WF.trim (WF.intro rfl (Nat.le_of_ble_eq_true rfl) ?_)
  repeat' first
    | refine W1.box rfl ok.sc5 (fun b1 => ?_)
    | (refine W1.callV rfl rfl (WV.func ((f55 ok).mono fun v M' => ?_)); rintro (⟨e, he, rfl, rfl⟩ | ⟨bT, bm, rfl, rfl, val⟩))
    | refine W1.ldAll rfl .here rfl ?_
    | refine W1.lenSlc rfl ok.ha.up.1 ?_
    | refine W1.shl1 rfl rfl val.na (fun n20 h0 h16 => ?_)
    | refine WC.freeze .here fun hb => WC.permM (List.Perm.swap _ _ _) (f33_out (t := t) (bT := bT) (b1 := b1) (n20 := n20) (ok.lessG (Gz.le_add hb)) (Gz.add_eq _ _ _) val h0 h16 (subL.cons rfl (subL.cons rfl (subL.cons rfl (subL.cons rfl (subL.cons rfl (subL.cons rfl (subL.nil _))))))) (fun L' q s k X hX hk hL' => ?_))
    | refine WC.ret ?_
    | refine WC.seq ?_
    | refine WC.region ?_
    | refine WC.skip ?_
    | refine WC.cond_f rfl (by first | assumption | rfl) ?_
    | refine WC.cond rfl (fun hc => ?_) (fun hc => ?_)
    | refine WO.nil ?_
    | refine WO.cons ?_
    | refine W1.mv rfl ?_
    | refine W1.fa rfl ?_
    | refine W1.ext rfl rfl ?_
    | refine W1.neq rfl rfl ?_
    | refine Exists.intro _ (And.intro (Res.tmp rfl (Res.tmp rfl Res.nil)) ?_)
    | refine W1.ldS rfl .here rfl ?_
    | refine W1.ldS rfl (.there (.there .here)) rfl ?_
  all_goals try exact absurd (by simpa using ‹(!decide (e = 0)) = false›) he
  all_goals try exact ⟨M, [_], List.Perm.refl _, _, [], 1, _, rfl, OwnC.nil (by decide), by decide, rfl⟩
  refine W1.weak hL' ?_
  repeat' first
    | refine WC.ret ?_
    | refine WC.seq ?_
    | refine WC.region ?_
    | refine WC.skip ?_
    | refine WC.cond rfl (fun hc => ?_) (fun hc => ?_)
    | refine WO.nil ?_
    | refine WO.cons ?_
    | refine W1.mv rfl ?_
    | refine W1.not rfl ?_
    | refine Exists.intro _ (And.intro (Res.tmp rfl (Res.tmp rfl Res.nil)) ?_)
  · obtain ⟨R, rfl, ho⟩ := hX.own (by have := val.na; omega)
    exact ⟨M, _, perm_x4 _ _ _ _ _, _, [], 1, _, rfl, OwnC.nil (by decide), by decide, rfl⟩
  · obtain ⟨R, rfl, ho⟩ := hX.own (by have := val.na; omega)
    exact ⟨_, _, perm_x3 _ _ _ _ _, s, R, k + 1, _, rfl, ho, by have := val.na; omega, rfl⟩
end Go.Ax
end
section
namespace Go.Ax
open Go.Ax.Ir
section
variable {g : Gz}
theorem Row.cons_inv {t : Ty} {ts : List Ty} {vs : List V} {b : Nat} (h : Row g (t :: ts) vs b) : ∃ v vs' k1 k2, vs = v :: vs' ∧ Cell g t v k1 ∧ Row g ts vs' k2 ∧ k1 + k2 ≤ b := by simpa only [Row] using h
theorem Row.nil_inv {vs : List V} {b : Nat} (h : Row g [] vs b) : vs = [] := by simpa only [Row] using h
theorem Cell.int_inv {v : V} {b : Nat} (h : Cell g .int v b) : ∃ n, v = .int .i64 n := by simp only [Cell] at h; exact h.1
theorem Cell.str_inv {v : V} {b : Nat} (h : Cell g .str v b) : ∃ s, v = .str s := by simp only [Cell] at h; obtain ⟨s, e, _⟩ := h; exact ⟨s, e⟩
theorem Cell.sl_inv {row : List Ty} {v : V} {b : Nat} (h : Cell g (.sl row) v b) : ∃ n rows kf, SlcR g [] v n row.length rows ∧ v.scalar = true ∧ n < b ∧ sumTo kf n < b ∧ ∀ i, i < n → Row g row (rows i) (kf i) := by simpa only [Cell] using h
theorem cellInt {n : Int} : Cell g .int (.int .i64 n) 1 := by simp only [Cell]; exact ⟨⟨n, rfl⟩, Nat.le_refl _⟩
theorem Cell.dom {h : HP} (hs : Sat g [] h) : ∀ {t : Ty} {v : V} {k : Nat}, Cell g t v k → v.inD (fun c => ∃ p, g c = some p)
  | .int, v, k, hc => by obtain ⟨n, rfl⟩ := hc.int_inv; trivial
  | .bool, v, k, hc => by simp only [Cell] at hc; obtain ⟨⟨t, rfl⟩, _⟩ := hc; trivial
  | .str, v, k, hc => by obtain ⟨n, rfl⟩ := hc.str_inv; trivial
  | .sl row, v, k, hc => by
    obtain ⟨n, rows, kf, h1, _⟩ := hc.sl_inv
    rcases h1.1 with ⟨rfl, _⟩ | ⟨b, o, cap, rfl, _, hr⟩
    · trivial
    · show ∃ p, g b = some p
      cases hb : g b with
      | some p => exact ⟨p, rfl⟩
      | none =>
        exfalso
        obtain ⟨cs, a, _, h2, _⟩ := hr (h.put b .dead) ⟨fun c o e => ⟨(hs.fz c o e).1, by rw [Hp.get_put, if_neg fun e' => by subst e'; rw [hb] at e; cases e]; exact (hs.fz c o e).2⟩, by simp, by simp⟩
        rw [Hp.get_put, if_pos rfl] at h2; cases h2
theorem Row.dom {h : HP} (hs : Sat g [] h) : ∀ {ts : List Ty} {vs : List V} {k : Nat}, Row g ts vs k → V.insD (fun c => ∃ p, g c = some p) vs
  | [], vs, k, hr => by rw [hr.nil_inv]; trivial
  | t :: ts, vs, k, hr => by
    obtain ⟨v, vs', k1, k2, rfl, h1, h2, _⟩ := hr.cons_inv
    exact ⟨h1.dom hs, h2.dom hs⟩
theorem GOk.add {b : Nat} {cs : List V} (hg : GOk g) (hb : g b = none) (hc : V.insD (fun c => ∃ p, g c = some p) cs) : GOk (g.add b (.arr cs {})) := by
  have up : ∀ {vs : List V}, V.insD (fun c => ∃ p, g c = some p) vs → V.insD (fun c => ∃ p, (g.add b (.arr cs {})) c = some p) vs := fun hv => V.insD_imp (fun c ⟨p, hp⟩ => ⟨p, Gz.le_add hb c p hp⟩) hv
  intro c o e
  by_cases hcb : c = b
  · subst hcb
    rw [Gz.add_eq] at e; cases e
    exact ⟨cs, {}, rfl, Or.inr rfl, up hc⟩
  · rw [Gz.add_ne g _ hcb] at e
    obtain ⟨cs', a, rfl, h1, h2⟩ := hg c o e
    exact ⟨cs', a, rfl, h1, up h2⟩
theorem WC.withSat {ft : FT FnR} {cur : Option Nat} {c : ICode} {L : Env} {M : Mem} {K : X → Env → Mem → Prop} (h : ∀ hp : HP, Sat g [] hp → WC ft g cur c L M K) : WC ft g cur c L M K :=
  fun τ hp hl hs => h hp ⟨hs.fz, by simp, by simp⟩ τ hp hl hs
theorem LM.toM {s : V} {cs : List V} {M : Mem} (l : LM s cs M) : ∃ R : Bks, M = Ax.toM R ∧ s.scalar = true ∧ ∀ g' : Gz, (∀ p ∈ R, g' p.1 = some (.arr p.2 {})) → Slc g' [] s cs.length 1 (fun i _ => (cs[i]?).getD .undef) := by
  rcases l with ⟨rfl, rfl, rfl⟩ | ⟨b, rfl, rfl⟩
  · exact ⟨[], rfl, rfl, fun g' _ => Or.inl ⟨rfl, rfl⟩⟩
  · refine ⟨[(b, cs)], rfl, rfl, fun g' h => Or.inr ⟨b, 0, none, rfl, by simp, fun hp hs => ?_⟩⟩
    obtain ⟨h1, h2⟩ := hs.fz b _ (h (b, cs) (by simp))
    refine ⟨cs, {}, h1, h2, fun i hi j hj => ?_⟩
    obtain rfl : j = 0 := by omega
    simp only [Nat.mul_one, Nat.zero_add, Nat.add_zero]
    rw [List.getElem?_eq_getElem hi]; rfl
end
abbrev tyVan : List Ty := [.str, .int, .int, .sl [.int, .int]]
abbrev tyCrate : List Ty := [.str, .int, .int, .int]
abbrev tyTrain : List Ty := [.sl tyVan, .int, .int, .sl tyCrate, .sl [.int, .int]]
abbrev tyAnew : List Ty := tyTrain ++ [.sl [.int], .int, .int, .int, .int]
theorem kf_le {kf : Nat → Nat} {n i b : Nat} (hi : i < n) (h : sumTo kf n < b) : kf i < b := by
  have h1 := sumTo_le (f := kf) (n := n) (i := i + 1) hi
  have h2 : sumTo kf (i + 1) = sumTo kf i + kf i := rfl
  omega
theorem bridge {g : Gz} {vs : List V} {b : Nat} (h : Row g tyTrain vs b) (hb : b ≤ 1048576) : ∃ t : TrD, vs = t.cells ∧ TrOk g t := by
  obtain ⟨v0, vs, a0, b0, rfl, c0, h, l0⟩ := h.cons_inv
  obtain ⟨v1, vs, a1, b1, rfl, c1, h, l1⟩ := h.cons_inv
  obtain ⟨v2, vs, a2, b2, rfl, c2, h, l2⟩ := h.cons_inv
  obtain ⟨v3, vs, a3, b3, rfl, c3, h, l3⟩ := h.cons_inv
  obtain ⟨v4, vs, a4, b4, rfl, c4, h, l4⟩ := h.cons_inv
  obtain rfl := h.nil_inv
  obtain ⟨n0, r0, k0, s0, sc0, ln0, ls0, hr0⟩ := c0.sl_inv
  obtain ⟨st, rfl⟩ := c1.int_inv
  obtain ⟨hd, rfl⟩ := c2.int_inv
  obtain ⟨n3, r3, k3, s3, sc3, ln3, ls3, hr3⟩ := c3.sl_inv
  obtain ⟨n4, r4, k4, s4, sc4, ln4, ls4, hr4⟩ := c4.sl_inv
  have hv : ∀ i, ∃ (nl : Nat) (leg : Nat → List V), i < n0 → (∃ nm a b c, r0 i = [.str nm, .int .i64 a, .int .i64 b, c] ∧ c.scalar = true ∧ SlcR g [] c nl 2 leg ∧ nl ≤ 1000000000) ∧ ∀ j, j < nl → ∃ a b, leg j = [.int .i64 a, .int .i64 b] := by
    intro i
    by_cases hi : i < n0
    · have hk := kf_le hi ls0
      obtain ⟨w0, ws, d0, e0, er, f0, h, m0⟩ := (hr0 i hi).cons_inv
      obtain ⟨w1, ws, d1, e1, rfl, f1, h, m1⟩ := h.cons_inv
      obtain ⟨w2, ws, d2, e2, rfl, f2, h, m2⟩ := h.cons_inv
      obtain ⟨w3, ws, d3, e3, rfl, f3, h, m3⟩ := h.cons_inv
      obtain rfl := h.nil_inv
      obtain ⟨nm, rfl⟩ := f0.str_inv
      obtain ⟨x, rfl⟩ := f1.int_inv
      obtain ⟨y, rfl⟩ := f2.int_inv
      obtain ⟨nl, leg, kl, q1, q2, q3, q4, q5⟩ := f3.sl_inv
      refine ⟨nl, leg, fun _ => ⟨⟨nm, x, y, w3, er, q2, q1, by omega⟩, fun j hj => ?_⟩⟩
      obtain ⟨u0, us, _, _, eu, y0, h, _⟩ := (q5 j hj).cons_inv
      obtain ⟨u1, us, _, _, rfl, y1, h, _⟩ := h.cons_inv
      obtain rfl := h.nil_inv
      obtain ⟨p, rfl⟩ := y0.int_inv
      obtain ⟨q, rfl⟩ := y1.int_inv
      exact ⟨p, q, eu⟩
    · exact ⟨0, fun _ => [], fun h => absurd h hi⟩
  obtain ⟨nl, hv⟩ := Classical.skolem.1 hv
  obtain ⟨leg, hv⟩ := Classical.skolem.1 hv
  refine ⟨⟨v0, v3, v4, n0, n3, n4, r0, r3, r4, nl, leg, st, hd⟩, rfl, ⟨s0, s3, s4, by show n0 ≤ _; omega, by show n3 ≤ _; omega, by show n4 ≤ _; omega, sc0, sc3, sc4, fun i hi => (hv i hi).1, fun i j hi hj => (hv i hi).2 j hj, fun i hi => ?_, fun i hi => ?_⟩⟩
  · obtain ⟨w0, ws, _, _, er, f0, h, _⟩ := (hr3 i hi).cons_inv
    obtain ⟨w1, ws, _, _, rfl, f1, h, _⟩ := h.cons_inv
    obtain ⟨w2, ws, _, _, rfl, f2, h, _⟩ := h.cons_inv
    obtain ⟨w3, ws, _, _, rfl, f3, h, _⟩ := h.cons_inv
    obtain rfl := h.nil_inv
    obtain ⟨nm, rfl⟩ := f0.str_inv
    obtain ⟨x, rfl⟩ := f1.int_inv
    obtain ⟨y, rfl⟩ := f2.int_inv
    obtain ⟨z, rfl⟩ := f3.int_inv
    exact ⟨nm, x, y, z, er⟩
  · obtain ⟨w0, ws, _, _, er, f0, h, _⟩ := (hr4 i hi).cons_inv
    obtain ⟨w1, ws, _, _, rfl, f1, h, _⟩ := h.cons_inv
    obtain rfl := h.nil_inv
    obtain ⟨x, rfl⟩ := f0.int_inv
    obtain ⟨y, rfl⟩ := f1.int_inv
    exact ⟨x, y, er⟩
abbrev ftb : FT FnR := (tbl : FT FnR)
theorem p8 : PutT ftb 8 .int := putT_int rfl (fun _ _ => rfl)
theorem p9 : PutT ftb 9 .int := putT_int rfl (fun _ _ => rfl)
theorem p99 : PutT ftb 99 .str := putT_str rfl (fun _ _ => rfl)
theorem p13 : PutT ftb 13 (.sl [.int]) := putT_list1 (p := 46) (fe := 8) rfl (fun _ _ => rfl) rfl (fun _ _ => rfl) p8
theorem p51 : PutR ftb 51 [.int, .int] := putG_ok (is := [⟨false, 1, 8⟩, ⟨false, 1, 8⟩]) rfl (fun _ _ => rfl) (.one p8 (.one p8 .nil))
theorem p18 : PutT ftb 18 (.sl [.int, .int]) := putT_listN (p := 50) (fe := 51) (e := 2) rfl (fun _ _ => rfl) rfl (fun _ _ => rfl) rfl p51
theorem p86 : PutR ftb 86 tyVan := putG_ok (is := [⟨false, 1, 99⟩, ⟨false, 1, 8⟩, ⟨false, 1, 8⟩, ⟨false, 1, 18⟩]) rfl (fun _ _ => rfl) (.one p99 (.one p8 (.one p8 (.one p18 .nil))))
theorem p69 : PutT ftb 69 (.sl tyVan) := putT_listN (p := 85) (fe := 86) (e := 4) rfl (fun _ _ => rfl) rfl (fun _ _ => rfl) rfl p86
theorem p88 : PutR ftb 88 tyCrate := putG_ok (is := [⟨false, 1, 99⟩, ⟨false, 1, 8⟩, ⟨false, 1, 8⟩, ⟨false, 1, 8⟩]) rfl (fun _ _ => rfl) (.one p99 (.one p8 (.one p8 (.one p8 .nil))))
theorem p70 : PutT ftb 70 (.sl tyCrate) := putT_listN (p := 87) (fe := 88) (e := 4) rfl (fun _ _ => rfl) rfl (fun _ _ => rfl) rfl p88
theorem p90 : PutR ftb 90 [.int, .int] := putG_ok (is := [⟨false, 1, 8⟩, ⟨false, 1, 8⟩]) rfl (fun _ _ => rfl) (.one p8 (.one p8 .nil))
theorem p71 : PutT ftb 71 (.sl [.int, .int]) := putT_listN (p := 89) (fe := 90) (e := 2) rfl (fun _ _ => rfl) rfl (fun _ _ => rfl) rfl p90
theorem p39 : PutR ftb 39 tyTrain := putG_ok (is := [⟨false, 1, 69⟩, ⟨false, 1, 8⟩, ⟨false, 1, 8⟩, ⟨false, 1, 70⟩, ⟨false, 1, 71⟩]) rfl (fun _ _ => rfl) (.one p69 (.one p8 (.one p8 (.one p70 (.one p71 .nil)))))
theorem p4 {g : Gz} {vs : List V} {k : Nat} (hrow : Ax.Row g tyAnew vs k) : ∃ ns ss : List V, ns.length ≤ k ∧ ss.length ≤ k ∧ IntL ns ∧ StrL ss ∧
    ∀ b cn cs M, HpM b cn cs M → cn.length + k ≤ lim40 → cs.length + k ≤ lim40 → WF ftb g 4 [.agg vs, .ptr b 0] M fun _ M' => HpM b (cn ++ ns) (cs ++ ss) M' :=
  putAll_ok (is := [⟨true, 5, 39⟩, ⟨false, 1, 13⟩, ⟨false, 1, 8⟩, ⟨false, 1, 8⟩, ⟨false, 1, 8⟩, ⟨false, 1, 8⟩]) rfl (fun _ _ => rfl) (.many (us := tyTrain) rfl p39 (.one p13 (.one p8 (.one p8 (.one p8 (.one p8 .nil)))))) hrow
theorem w48 : WipeT ftb 48 .int := wipeT_int rfl (fun _ _ => rfl)
theorem w15 : WipeT ftb 15 (.sl [.int]) := wipeT_list (p := 47) (fe := 48) (e := 1) rfl (fun _ _ => rfl) rfl (fun _ _ => rfl) rfl w48.row
theorem w53 : WipeR ftb 53 [.int, .int] := wipeG_ok (is := [(1, 48), (1, 48)]) rfl (fun _ _ => rfl) (by simp) (.one w48 (.one w48 .nil))
theorem w20 : WipeT ftb 20 (.sl [.int, .int]) := wipeT_list (p := 52) (fe := 53) (e := 2) rfl (fun _ _ => rfl) rfl (fun _ _ => rfl) rfl w53
end Go.Ax
end
section
namespace Go.Ax
open Go.Ax.Ir
theorem V.cells1 {s : V} (h : s.scalar = true) : s.cells = [s] := by cases s <;> first | rfl | cases h
theorem W1.st0 {ft : FT FnR} {g : Gz} {L : Env} {M M' : Mem} {K : Env → Mem → Prop} {a x : Opd} {b : Nat} {s s0 : V} (ha : lkO L a = some (.ptr b 0)) (hx : lkO L x = some s) (hs : s.scalar = true) (hu : Up M b (Arr1 [s0] {}) (Arr1 [s] {}) M') (h : K L M') : W1 ft g ⟨none, .st 1 a x, none⟩ L M K :=
  W1.st ha hx (by rw [V.cells1 hs]; rfl) (by rw [V.cells1 hs]; simp [hs]) (by rw [V.cells1 hs]; exact hu) (Nat.le_refl _) h
attribute [local irreducible] W1 WO WC WD WF WV
structure InOk (g : Gz) (bx : Nat) (t : TrD) (sp : V) (np : Nat) (pl : Nat → Int) (n1 n2 n3 n4 : Int) : Prop where
  hX : g bx = some (.arr (t.cells ++ [sp, .int .i64 n1, .int .i64 n2, .int .i64 n3, .int .i64 n4]) {})
  ok : TrOk g t
  hs : Slc g [] sp np 1 fun i _ => .int .i64 (pl i)
  hnp : np ≤ 1000000000
set_option maxHeartbeats 1000000 in
theorem ag6 {g : Gz} {bx : Nat} {t : TrD} {sp : V} {np : Nat} {pl : Nat → Int} {n1 n2 n3 n4 : Int} (I : InOk g bx t sp np pl n1 n2 n3 n4) : AgC ftb g 6 [.ptr bx 0] := by
  have l5 : rdAgg g true bx 0 5 = some (.agg t.cells) := by simp [rdAgg, rdG, I.hX, TrD.cells]
  intro b
  have l40 : lim40 = 1099511627776 := rfl
  have hlim : limit = 35184372088832 := rfl
  refine WF.intro rfl (Nat.le_of_ble_eq_true rfl) ?_
  repeat' first
    | refine W1.ldG rfl l5 ?_
    | (refine W1.callV rfl rfl (WV.func ((f7 I.ok).mono fun v M' => ?_)); rintro ⟨rfl, p, a, e, rfl, hv⟩)
    | refine W1.put (Q := []) (Mh := [(b, E2P)]) (k := 1) rfl (p8 g _ 1 cellInt) (HpM.new b) (by simp only [List.length_nil]; omega) (by simp only [List.length_nil]; omega) (fun v ns ss Mh' h1 h2 hM => ?_)
    | refine W1.put (Q := []) (k := 1) rfl (p8 g _ 1 cellInt) hM (by simp only [List.length_append, List.length_nil]; omega) (by simp only [List.length_append, List.length_nil]; omega) (fun v ns ss Mh' h1 h2 hM => ?_)
    | refine W1.put (Q := []) (k := 1) rfl (p9 g _ 1 cellInt) hM (by simp only [List.length_append, List.length_nil]; omega) (by simp only [List.length_append, List.length_nil]; omega) (fun v ns ss Mh' h1 h2 hM => ?_)
    | refine WC.ret ?_
    | refine WC.seq ?_
    | refine WC.region ?_
    | refine WO.nil ?_
    | refine WO.cons ?_
    | refine W1.mv rfl ?_
    | refine W1.fa rfl ?_
    | refine W1.ext rfl rfl ?_
    | refine Exists.intro _ (And.intro (Res.tmp rfl Res.nil) ?_)
  exact ⟨10, [], _, _, _, [], rfl, by decide, by simp, hM, by simp only [List.length_append, List.length_nil]; omega, by simp only [List.length_append, List.length_nil]; omega, nothing_ok rfl (fun _ _ => rfl)⟩
set_option maxHeartbeats 1000000 in
theorem ag11 {g : Gz} {bx : Nat} {t : TrD} {sp : V} {np : Nat} {pl : Nat → Int} {n1 n2 n3 n4 : Int} (I : InOk g bx t sp np pl n1 n2 n3 n4) : AgC ftb g 11 [.ptr bx 0] := by
  have l5 : rdAgg g true bx 0 5 = some (.agg t.cells) := by simp [rdAgg, rdG, I.hX, TrD.cells]
  have k5 : rdAgg g false bx 5 1 = some (sp) := by simp [rdAgg, I.hX, TrD.cells]
  have k6 : rdAgg g false bx 6 1 = some (.int .i64 n1) := by simp [rdAgg, I.hX, TrD.cells]
  intro b
  have l40 : lim40 = 1099511627776 := rfl
  have hlim : limit = 35184372088832 := rfl
  refine WF.intro rfl (Nat.le_of_ble_eq_true rfl) ?_
  repeat' first
    | refine W1.ldG rfl l5 ?_
    | refine W1.ldG rfl k5 ?_
    | refine W1.ldG rfl k6 ?_
    | (refine W1.callV rfl rfl (WV.func ((f12 I.ok I.hs I.hnp).mono fun v M' => ?_)); rintro ⟨s, R, k, e, rfl, ho, hk, rfl⟩)
    | refine W1.putO (pre := [_]) (R := R) rfl p13 ho (HpM.new b) (by simp only [List.length_nil]; omega) (by simp only [List.length_nil]; omega) (fun v ns ss Mh' h1 h2 hM => ?_)
    | refine W1.put (Q := _ :: toM R) (k := 1) rfl (p9 g _ 1 cellInt) hM (by simp only [List.length_append, List.length_nil]; omega) (by simp only [List.length_append, List.length_nil]; omega) (fun v ns ss Mh' h1 h2 hM => ?_)
    | refine WC.ret ?_
    | refine WC.seq ?_
    | refine WC.region ?_
    | refine WO.nil ?_
    | refine WO.cons ?_
    | refine W1.mv rfl ?_
    | refine W1.fa rfl ?_
    | refine W1.ext rfl rfl ?_
    | refine W1.mkfn rfl rfl ?_
    | refine W1.alloc rfl (fun bb => ?_)
    | refine Exists.intro _ (And.intro (Res.tmp rfl Res.nil) ?_)
    | refine W1.st0 rfl rfl ho.scalar .here ?_
    | refine W1.ldS rfl .here rfl ?_
  exact ⟨14, [.ptr _ 0], _, _, _, _ :: toM R, rfl, by decide, agc_perm, hM, by simp only [List.length_append, List.length_nil]; omega, by simp only [List.length_append, List.length_nil]; omega, wipeC_ok (fn := 15) rfl (fun _ _ => rfl) w15 ho⟩
set_option maxHeartbeats 1000000 in
theorem ag16 {g : Gz} {bx : Nat} {t : TrD} {sp : V} {np : Nat} {pl : Nat → Int} {n1 n2 n3 n4 : Int} (I : InOk g bx t sp np pl n1 n2 n3 n4) : AgC ftb g 16 [.ptr bx 0] := by
  have l5 : rdAgg g true bx 0 5 = some (.agg t.cells) := by simp [rdAgg, rdG, I.hX, TrD.cells]
  have k5 : rdAgg g false bx 5 1 = some (sp) := by simp [rdAgg, I.hX, TrD.cells]
  have k6 : rdAgg g false bx 6 1 = some (.int .i64 n1) := by simp [rdAgg, I.hX, TrD.cells]
  intro b
  have l40 : lim40 = 1099511627776 := rfl
  have hlim : limit = 35184372088832 := rfl
  refine WF.intro rfl (Nat.le_of_ble_eq_true rfl) ?_
  repeat' first
    | refine W1.ldG rfl l5 ?_
    | refine W1.ldG rfl k5 ?_
    | refine W1.ldG rfl k6 ?_
    | (refine W1.callV rfl rfl (WV.func ((f17 I.ok I.hs I.hnp).mono fun v M' => ?_)); rintro ⟨s, R, k, e, rfl, ho, hk, rfl⟩)
    | refine W1.putO (pre := [_]) (R := R) rfl p18 ho (HpM.new b) (by simp only [List.length_nil]; omega) (by simp only [List.length_nil]; omega) (fun v ns ss Mh' h1 h2 hM => ?_)
    | refine W1.put (Q := _ :: toM R) (k := 1) rfl (p9 g _ 1 cellInt) hM (by simp only [List.length_append, List.length_nil]; omega) (by simp only [List.length_append, List.length_nil]; omega) (fun v ns ss Mh' h1 h2 hM => ?_)
    | refine WC.ret ?_
    | refine WC.seq ?_
    | refine WC.region ?_
    | refine WO.nil ?_
    | refine WO.cons ?_
    | refine W1.mv rfl ?_
    | refine W1.fa rfl ?_
    | refine W1.ext rfl rfl ?_
    | refine W1.mkfn rfl rfl ?_
    | refine W1.alloc rfl (fun bb => ?_)
    | refine Exists.intro _ (And.intro (Res.tmp rfl Res.nil) ?_)
    | refine W1.st0 rfl rfl ho.scalar .here ?_
    | refine W1.ldS rfl .here rfl ?_
  exact ⟨19, [.ptr _ 0], _, _, _, _ :: toM R, rfl, by decide, agc_perm, hM, by simp only [List.length_append, List.length_nil]; omega, by simp only [List.length_append, List.length_nil]; omega, wipeC_ok (fn := 20) rfl (fun _ _ => rfl) w20 ho⟩
set_option maxHeartbeats 1000000 in
theorem ag21 {g : Gz} {bx : Nat} {t : TrD} {sp : V} {np : Nat} {pl : Nat → Int} {n1 n2 n3 n4 : Int} (I : InOk g bx t sp np pl n1 n2 n3 n4) : AgC ftb g 21 [.ptr bx 0] := by
  have l5 : rdAgg g true bx 0 5 = some (.agg t.cells) := by simp [rdAgg, rdG, I.hX, TrD.cells]
  have k5 : rdAgg g false bx 5 1 = some (sp) := by simp [rdAgg, I.hX, TrD.cells]
  have k7 : rdAgg g false bx 7 1 = some (.int .i64 n2) := by simp [rdAgg, I.hX, TrD.cells]
  intro b
  have l40 : lim40 = 1099511627776 := rfl
  have hlim : limit = 35184372088832 := rfl
  refine WF.intro rfl (Nat.le_of_ble_eq_true rfl) ?_
  repeat' first
    | refine W1.ldG rfl l5 ?_
    | refine W1.ldG rfl k5 ?_
    | refine W1.ldG rfl k7 ?_
    | (refine W1.callV rfl rfl (WV.func ((f22 I.ok I.hs I.hnp).mono fun v M' => ?_)); rintro ⟨rfl, n, e, rfl⟩)
    | refine W1.put (Q := []) (Mh := [(b, E2P)]) (k := 1) rfl (p8 g _ 1 cellInt) (HpM.new b) (by simp only [List.length_nil]; omega) (by simp only [List.length_nil]; omega) (fun v ns ss Mh' h1 h2 hM => ?_)
    | refine W1.put (Q := []) (k := 1) rfl (p9 g _ 1 cellInt) hM (by simp only [List.length_append, List.length_nil]; omega) (by simp only [List.length_append, List.length_nil]; omega) (fun v ns ss Mh' h1 h2 hM => ?_)
    | refine WC.ret ?_
    | refine WC.seq ?_
    | refine WC.region ?_
    | refine WO.nil ?_
    | refine WO.cons ?_
    | refine W1.mv rfl ?_
    | refine W1.fa rfl ?_
    | refine W1.ext rfl rfl ?_
    | refine Exists.intro _ (And.intro (Res.tmp rfl Res.nil) ?_)
  exact ⟨10, [], _, _, _, [], rfl, by decide, by simp, hM, by simp only [List.length_append, List.length_nil]; omega, by simp only [List.length_append, List.length_nil]; omega, nothing_ok rfl (fun _ _ => rfl)⟩
set_option maxHeartbeats 1000000 in
theorem ag23 {g : Gz} {bx : Nat} {t : TrD} {sp : V} {np : Nat} {pl : Nat → Int} {n1 n2 n3 n4 : Int} (I : InOk g bx t sp np pl n1 n2 n3 n4) : AgC ftb g 23 [.ptr bx 0] := by
  have l5 : rdAgg g true bx 0 5 = some (.agg t.cells) := by simp [rdAgg, rdG, I.hX, TrD.cells]
  have k5 : rdAgg g false bx 5 1 = some (sp) := by simp [rdAgg, I.hX, TrD.cells]
  have k6 : rdAgg g false bx 6 1 = some (.int .i64 n1) := by simp [rdAgg, I.hX, TrD.cells]
  have k8 : rdAgg g false bx 8 1 = some (.int .i64 n3) := by simp [rdAgg, I.hX, TrD.cells]
  have k9 : rdAgg g false bx 9 1 = some (.int .i64 n4) := by simp [rdAgg, I.hX, TrD.cells]
  intro b
  have l40 : lim40 = 1099511627776 := rfl
  have hlim : limit = 35184372088832 := rfl
  refine WF.intro rfl (Nat.le_of_ble_eq_true rfl) ?_
  repeat' first
    | refine W1.ldG rfl l5 ?_
    | refine W1.ldG rfl k5 ?_
    | refine W1.ldG rfl k6 ?_
    | refine W1.ldG rfl k8 ?_
    | refine W1.ldG rfl k9 ?_
    | (refine W1.callV rfl rfl (WV.func ((f24 I.ok I.hs I.hnp).mono fun v M' => ?_)); rintro ⟨s, R, k, e, rfl, ho, hk, rfl⟩)
    | refine W1.putO (pre := [_]) (R := R) rfl p18 ho (HpM.new b) (by simp only [List.length_nil]; omega) (by simp only [List.length_nil]; omega) (fun v ns ss Mh' h1 h2 hM => ?_)
    | refine W1.put (Q := _ :: toM R) (k := 1) rfl (p9 g _ 1 cellInt) hM (by simp only [List.length_append, List.length_nil]; omega) (by simp only [List.length_append, List.length_nil]; omega) (fun v ns ss Mh' h1 h2 hM => ?_)
    | refine WC.ret ?_
    | refine WC.seq ?_
    | refine WC.region ?_
    | refine WO.nil ?_
    | refine WO.cons ?_
    | refine W1.mv rfl ?_
    | refine W1.fa rfl ?_
    | refine W1.ext rfl rfl ?_
    | refine W1.mkfn rfl rfl ?_
    | refine W1.alloc rfl (fun bb => ?_)
    | refine Exists.intro _ (And.intro (Res.tmp rfl Res.nil) ?_)
    | refine W1.st0 rfl rfl ho.scalar .here ?_
    | refine W1.ldS rfl .here rfl ?_
  exact ⟨25, [.ptr _ 0], _, _, _, _ :: toM R, rfl, by decide, agc_perm, hM, by simp only [List.length_append, List.length_nil]; omega, by simp only [List.length_append, List.length_nil]; omega, wipeC_ok (fn := 20) rfl (fun _ _ => rfl) w20 ho⟩
set_option maxHeartbeats 1000000 in
theorem ag26 {g : Gz} {bx : Nat} {t : TrD} {sp : V} {np : Nat} {pl : Nat → Int} {n1 n2 n3 n4 : Int} (I : InOk g bx t sp np pl n1 n2 n3 n4) : AgC ftb g 26 [.ptr bx 0] := by
  have l5 : rdAgg g true bx 0 5 = some (.agg t.cells) := by simp [rdAgg, rdG, I.hX, TrD.cells]
  intro b
  have l40 : lim40 = 1099511627776 := rfl
  have hlim : limit = 35184372088832 := rfl
  refine WF.intro rfl (Nat.le_of_ble_eq_true rfl) ?_
  repeat' first
    | refine W1.ldG rfl l5 ?_
    | (refine W1.callV rfl rfl (WV.func ((f27 I.ok).mono fun v M' => ?_)); rintro ⟨s, R, k, e1, e2, e3, rfl, ho, hk, rfl⟩)
    | refine W1.putO (pre := [_]) (R := R) rfl p13 ho (HpM.new b) (by simp only [List.length_nil]; omega) (by simp only [List.length_nil]; omega) (fun v ns ss Mh' h1 h2 hM => ?_)
    | refine W1.put (Q := _ :: toM R) (k := 1) rfl (p8 g _ 1 cellInt) hM (by simp only [List.length_append, List.length_nil]; omega) (by simp only [List.length_append, List.length_nil]; omega) (fun v ns ss Mh' h1 h2 hM => ?_)
    | refine W1.put (Q := _ :: toM R) (k := 1) rfl (p9 g _ 1 cellInt) hM (by simp only [List.length_append, List.length_nil]; omega) (by simp only [List.length_append, List.length_nil]; omega) (fun v ns ss Mh' h1 h2 hM => ?_)
    | refine WC.ret ?_
    | refine WC.seq ?_
    | refine WC.region ?_
    | refine WO.nil ?_
    | refine WO.cons ?_
    | refine W1.mv rfl ?_
    | refine W1.fa rfl ?_
    | refine W1.ext rfl rfl ?_
    | refine W1.mkfn rfl rfl ?_
    | refine W1.alloc rfl (fun bb => ?_)
    | refine Exists.intro _ (And.intro (Res.tmp rfl Res.nil) ?_)
    | refine W1.st0 rfl rfl ho.scalar .here ?_
    | refine W1.ldS rfl .here rfl ?_
  exact ⟨28, [.ptr _ 0], _, _, _, _ :: toM R, rfl, by decide, agc_perm, hM, by simp only [List.length_append, List.length_nil]; omega, by simp only [List.length_append, List.length_nil]; omega, wipeC_ok (fn := 15) rfl (fun _ _ => rfl) w15 ho⟩
set_option maxHeartbeats 1000000 in
theorem ag29 {g : Gz} {bx : Nat} {t : TrD} {sp : V} {np : Nat} {pl : Nat → Int} {n1 n2 n3 n4 : Int} (I : InOk g bx t sp np pl n1 n2 n3 n4) : AgC ftb g 29 [.ptr bx 0] := by
  have l5 : rdAgg g true bx 0 5 = some (.agg t.cells) := by simp [rdAgg, rdG, I.hX, TrD.cells]
  intro b
  have l40 : lim40 = 1099511627776 := rfl
  have hlim : limit = 35184372088832 := rfl
  refine WF.intro rfl (Nat.le_of_ble_eq_true rfl) ?_
  repeat' first
    | refine W1.ldG rfl l5 ?_
    | (refine W1.callV rfl rfl (WV.func ((f30 I.ok).mono fun v M' => ?_)); rintro ⟨s, R, k, e, rfl, ho, hk, rfl⟩)
    | refine W1.putO (pre := [_]) (R := R) rfl p13 ho (HpM.new b) (by simp only [List.length_nil]; omega) (by simp only [List.length_nil]; omega) (fun v ns ss Mh' h1 h2 hM => ?_)
    | refine W1.put (Q := _ :: toM R) (k := 1) rfl (p9 g _ 1 cellInt) hM (by simp only [List.length_append, List.length_nil]; omega) (by simp only [List.length_append, List.length_nil]; omega) (fun v ns ss Mh' h1 h2 hM => ?_)
    | refine WC.ret ?_
    | refine WC.seq ?_
    | refine WC.region ?_
    | refine WO.nil ?_
    | refine WO.cons ?_
    | refine W1.mv rfl ?_
    | refine W1.fa rfl ?_
    | refine W1.ext rfl rfl ?_
    | refine W1.mkfn rfl rfl ?_
    | refine W1.alloc rfl (fun bb => ?_)
    | refine Exists.intro _ (And.intro (Res.tmp rfl Res.nil) ?_)
    | refine W1.st0 rfl rfl ho.scalar .here ?_
    | refine W1.ldS rfl .here rfl ?_
  exact ⟨31, [.ptr _ 0], _, _, _, _ :: toM R, rfl, by decide, agc_perm, hM, by simp only [List.length_append, List.length_nil]; omega, by simp only [List.length_append, List.length_nil]; omega, wipeC_ok (fn := 15) rfl (fun _ _ => rfl) w15 ho⟩
set_option maxHeartbeats 1000000 in
theorem ag32 {g : Gz} {bx : Nat} {t : TrD} {sp : V} {np : Nat} {pl : Nat → Int} {n1 n2 n3 n4 : Int} (I : InOk g bx t sp np pl n1 n2 n3 n4) : AgC ftb g 32 [.ptr bx 0] := by
  have l5 : rdAgg g true bx 0 5 = some (.agg t.cells) := by simp [rdAgg, rdG, I.hX, TrD.cells]
  intro b
  have l40 : lim40 = 1099511627776 := rfl
  have hlim : limit = 35184372088832 := rfl
  refine WF.intro rfl (Nat.le_of_ble_eq_true rfl) ?_
  repeat' first
    | refine W1.ldG rfl l5 ?_
    | (refine W1.callV rfl rfl (WV.func ((f33 I.ok).mono fun v M' => ?_)); rintro ⟨s, R, k, e, rfl, ho, hk, rfl⟩)
    | refine W1.putO (pre := [_]) (R := R) rfl p13 ho (HpM.new b) (by simp only [List.length_nil]; omega) (by simp only [List.length_nil]; omega) (fun v ns ss Mh' h1 h2 hM => ?_)
    | refine W1.put (Q := _ :: toM R) (k := 1) rfl (p9 g _ 1 cellInt) hM (by simp only [List.length_append, List.length_nil]; omega) (by simp only [List.length_append, List.length_nil]; omega) (fun v ns ss Mh' h1 h2 hM => ?_)
    | refine WC.ret ?_
    | refine WC.seq ?_
    | refine WC.region ?_
    | refine WO.nil ?_
    | refine WO.cons ?_
    | refine W1.mv rfl ?_
    | refine W1.fa rfl ?_
    | refine W1.ext rfl rfl ?_
    | refine W1.mkfn rfl rfl ?_
    | refine W1.alloc rfl (fun bb => ?_)
    | refine Exists.intro _ (And.intro (Res.tmp rfl Res.nil) ?_)
    | refine W1.st0 rfl rfl ho.scalar .here ?_
    | refine W1.ldS rfl .here rfl ?_
  exact ⟨34, [.ptr _ 0], _, _, _, _ :: toM R, rfl, by decide, agc_perm, hM, by simp only [List.length_append, List.length_nil]; omega, by simp only [List.length_append, List.length_nil]; omega, wipeC_ok (fn := 15) rfl (fun _ _ => rfl) w15 ho⟩
set_option maxHeartbeats 1000000 in
theorem ag35 {g : Gz} {bx : Nat} {t : TrD} {sp : V} {np : Nat} {pl : Nat → Int} {n1 n2 n3 n4 : Int} (I : InOk g bx t sp np pl n1 n2 n3 n4) : AgC ftb g 35 [.ptr bx 0] := by
  have l5 : rdAgg g true bx 0 5 = some (.agg t.cells) := by simp [rdAgg, rdG, I.hX, TrD.cells]
  intro b
  have l40 : lim40 = 1099511627776 := rfl
  have hlim : limit = 35184372088832 := rfl
  refine WF.intro rfl (Nat.le_of_ble_eq_true rfl) ?_
  repeat' first
    | refine W1.ldG rfl l5 ?_
    | (refine W1.callV rfl rfl (WV.func ((f36 I.ok).mono fun v M' => ?_)); rintro ⟨rfl, n, e, rfl⟩)
    | refine W1.put (Q := []) (Mh := [(b, E2P)]) (k := 1) rfl (p8 g _ 1 cellInt) (HpM.new b) (by simp only [List.length_nil]; omega) (by simp only [List.length_nil]; omega) (fun v ns ss Mh' h1 h2 hM => ?_)
    | refine W1.put (Q := []) (k := 1) rfl (p9 g _ 1 cellInt) hM (by simp only [List.length_append, List.length_nil]; omega) (by simp only [List.length_append, List.length_nil]; omega) (fun v ns ss Mh' h1 h2 hM => ?_)
    | refine WC.ret ?_
    | refine WC.seq ?_
    | refine WC.region ?_
    | refine WO.nil ?_
    | refine WO.cons ?_
    | refine W1.mv rfl ?_
    | refine W1.fa rfl ?_
    | refine W1.ext rfl rfl ?_
    | refine Exists.intro _ (And.intro (Res.tmp rfl Res.nil) ?_)
  exact ⟨10, [], _, _, _, [], rfl, by decide, by simp, hM, by simp only [List.length_append, List.length_nil]; omega, by simp only [List.length_append, List.length_nil]; omega, nothing_ok rfl (fun _ _ => rfl)⟩
end Go.Ax
end
section
namespace Go.Ax
open Go.Ax.Ir
noncomputable abbrev rft : FT FnR := rootFt tbl 5 37 38
theorem rplain : ∀ f args h x, rft.orc f args h = some x → rft.fn f = none := rootFt_plain rfl rfl
theorem lift3 {g : Gz} {f : Nat} {args : List V} {M : Mem} {K : V → Mem → Prop} (h : WF ftb g f args M K) : WF rft g f args M K := WF.lift rplain h
attribute [local irreducible] W1 WO WC WD WF WV
def ir3e : ICode := cS2 (cS2 (cS2 (cS2 (cS2 ir3.code))))
theorem root_end {g : Gz} {b3 b4 : Nat} {cn cs : List V} {M1 M2 : Mem} {L : Env} (h3 : HpM b3 cn cs M1) (h4 : HpM b4 cn cs M2) (ln : cn.length ≤ limit) (ls : cs.length ≤ limit) (hL : subL L [(3, .ptr b3 0), (4, .ptr b4 0), (5, .bool true)]) :
    WC rft g none ir3e L (M2 ++ M1) (retK g ir3.res fun v _ => v = .bool true) := by
  obtain ⟨sn, ss, Mn, Ms, hp, l1, l2⟩ := h3.ex
  obtain ⟨sn', ss', Mn', Ms', hp', l1', l2'⟩ := h4.ex
  obtain ⟨R1, rfl, c1, k1⟩ := l1.toM
  obtain ⟨R2, rfl, c2, k2⟩ := l2.toM
  obtain ⟨R1', rfl, c1', k1'⟩ := l1'.toM
  obtain ⟨R2', rfl, c2', k2'⟩ := l2'.toM
  have hP : (M2 ++ M1).Perm ((b4, Arr1 [sn', ss'] {}) :: (b3, Arr1 [sn, ss] {}) :: toM ((R1' ++ R2') ++ (R1 ++ R2))) := by
    refine (hp'.append hp).trans ?_
    rw [List.cons_append, toM_app, toM_app, toM_app]
    exact List.Perm.cons _ List.perm_middle
  refine WC.permM hP ?_
  refine WC.weak hL ?_
  repeat' first
    | refine W1.ldAll rfl .here rfl ?_
    | refine W1.ldAll rfl (.there .here) rfl ?_
    | (refine W1.callV rfl rfl (WV.func (WF.permM (List.perm_append_comm (l₁ := [_, _])) (WF.freezeL fun g' hg hR => ((WF.frame (M0 := []) (lift3 (f_same (ft := ftb) (sm := 37) rfl (fun _ _ => rfl) (k1 g' fun p hp => hR p (by simp [hp])) (k2 g' fun p hp => hR p (by simp [hp])) (k1' g' fun p hp => hR p (by simp [hp])) (k2' g' fun p hp => hR p (by simp [hp])) c1 c2 c1' c2' h3.ints h3.strs ln ls)) (List.Perm.refl _)).mono fun v M' => ?_)))); rintro ⟨_, rfl, rfl⟩)
    | refine W1.awake (by decide) ?_
    | refine WC.ret ?_
    | refine WC.seq ?_
    | refine WC.region ?_
    | refine WO.nil ?_
    | refine WO.cons ?_
    | refine W1.guard_y rfl (by first | assumption | rfl) ?_
    | refine W1.pick_t rfl (by first | assumption | rfl) rfl ?_
    | refine W1.mv rfl ?_
    | refine Exists.intro _ (And.intro (Res.tmp rfl Res.nil) ?_)
  rfl
set_option maxHeartbeats 1000000 in
theorem f3 {g : Gz} {vs : List V} {k : Nat} (hrow : Ax.Row g tyAnew vs k) (hk : k ≤ 1048576) (hg : GOk g) : WF rft g 3 [.agg vs] [] fun v _ => v = .bool true := by
  obtain ⟨ns, ss, a1, a2, _, _, put⟩ := p4 hrow
  obtain ⟨v1, v2, k1, k2, rfl, r1, r2, _⟩ := hrow.split
  obtain ⟨t, rfl, ok⟩ := bridge r1 (by omega)
  obtain ⟨sp, ws, _, _, rfl, d0, r2, _⟩ := r2.cons_inv
  obtain ⟨w1, ws, _, _, rfl, d1, r2, _⟩ := r2.cons_inv
  obtain ⟨w2, ws, _, _, rfl, d2, r2, _⟩ := r2.cons_inv
  obtain ⟨w3, ws, _, _, rfl, d3, r2, _⟩ := r2.cons_inv
  obtain ⟨w4, ws, _, _, rfl, d4, r2, _⟩ := r2.cons_inv
  obtain rfl := r2.nil_inv
  obtain ⟨np, rows, kf, s1, s2, s3, s4, s5⟩ := d0.sl_inv
  obtain ⟨n1, rfl⟩ := d1.int_inv
  obtain ⟨n2, rfl⟩ := d2.int_inv
  obtain ⟨n3, rfl⟩ := d3.int_inv
  obtain ⟨n4, rfl⟩ := d4.int_inv
  have l40 : lim40 = 1099511627776 := rfl
  have hlim : limit = 35184372088832 := rfl
  have hpl : ∃ pl : Nat → Int, Slc g [] sp np 1 fun i _ => .int .i64 (pl i) := by
    have : ∀ i, ∃ q : Int, i < np → rows i = [.int .i64 q] := by
      intro i
      by_cases hi : i < np
      · obtain ⟨u, us, _, _, e, y, h, _⟩ := (s5 i hi).cons_inv
        obtain rfl := h.nil_inv
        obtain ⟨q, rfl⟩ := y.int_inv
        exact ⟨q, fun _ => e⟩
      · exact ⟨0, fun h => absurd h hi⟩
    obtain ⟨pl, hpl⟩ := Classical.skolem.1 this
    refine ⟨pl, ?_⟩
    rcases s1.1 with h | ⟨b, o, cap, h1, h2, h3⟩
    · exact Or.inl h
    · refine Or.inr ⟨b, o, cap, h1, h2, fun hp hs => ?_⟩
      obtain ⟨cs, a, q1, q2, q3⟩ := h3 hp hs
      refine ⟨cs, a, q1, q2, fun i hi j hj => ?_⟩
      obtain rfl : j = 0 := by simp at hj; omega
      have e : cs[o + i * 1 + 0]? = some (((rows i)[0]?).getD .undef) := q3 i hi 0 hj
      rw [hpl i hi] at e; exact e
  obtain ⟨pl, hpl⟩ := hpl
  have hsc : (V.agg (t.cells ++ [sp, .int .i64 n1, .int .i64 n2, .int .i64 n3, .int .i64 n4])).cells.all V.scalar = true := by
    refine List.all_eq_true.2 fun v hv => ?_
    rcases List.mem_append.1 (show v ∈ t.cells ++ [sp, .int .i64 n1, .int .i64 n2, .int .i64 n3, .int .i64 n4] from hv) with h | h
    · exact List.all_eq_true.1 ok.sc5 v h
    · simp only [List.mem_cons, List.mem_nil_iff, or_false] at h
      rcases h with rfl | rfl | rfl | rfl | rfl
      · exact s2
      all_goals rfl
  refine WF.intro rfl (Nat.le_of_ble_eq_true rfl) ?_ (fun _ _ => rfl)
  refine WC.seq (WC.region (WO.cons (W1.box rfl hsc fun bx => WO.cons (W1.mv rfl (WO.nil ?_)))))
  refine WC.freeze .here fun hb => WC.withSat fun hp hs => ?_
  have s0 := hs.less (Gz.le_add hb)
  have hle := Gz.le_add (o := .arr (V.agg (t.cells ++ [sp, .int .i64 n1, .int .i64 n2, .int .i64 n3, .int .i64 n4])).cells {}) hb
  have hg' := hg.add (b := bx) hb (hrow.dom s0)
  have hX := Gz.add_eq g bx (.arr (V.agg (t.cells ++ [sp, .int .i64 n1, .int .i64 n2, .int .i64 n3, .int .i64 n4])).cells {})
  have I : InOk _ bx t sp np pl n1 n2 n3 n4 := ⟨hX, ok.lessG hle, hpl.lessG hle, by omega⟩
  have l10 : rdAgg (g.add bx (.arr (V.agg (t.cells ++ [sp, .int .i64 n1, .int .i64 n2, .int .i64 n3, .int .i64 n4])).cells {})) true bx 0 10 = some (.agg (t.cells ++ [sp, .int .i64 n1, .int .i64 n2, .int .i64 n3, .int .i64 n4])) := by
    unfold rdAgg rdG; rw [hX]; rfl
  have hin : V.insD (fun c => ∃ p, (g.add bx (.arr (V.agg (t.cells ++ [sp, .int .i64 n1, .int .i64 n2, .int .i64 n3, .int .i64 n4])).cells {})) c = some p) [.ptr bx 0] := ⟨⟨_, hX⟩, trivial⟩
  obtain ⟨ns, ss, a1, a2, _, _, put⟩ := p4 (hrow.lessG hle)
  repeat' first
    | refine W1.ldG rfl l10 ?_
    | (refine W1.callV rfl rfl (WV.func (((lift3 (put _ [] [] _ (HpM.new _) (by simp only [List.length_nil]; omega) (by simp only [List.length_nil]; omega))).frame (List.Perm.swap _ _ _)).mono fun v M' => ?_)); rintro ⟨M1, hM1, rfl⟩)
    | (refine W1.callV rfl rfl (WV.func (((lift3 (put _ [] [] [(_, E2P)] (HpM.new _) (by simp only [List.length_nil]; omega) (by simp only [List.length_nil]; omega))).frame List.perm_append_comm).mono fun v M' => ?_)); rintro ⟨M2, hM2, rfl⟩)
    | refine W1.again (sm := 37) rfl (by decide) hg' hin (ag6 I) ?_
    | refine W1.again (sm := 37) rfl (by decide) hg' hin (ag11 I) ?_
    | refine W1.again (sm := 37) rfl (by decide) hg' hin (ag16 I) ?_
    | refine W1.again (sm := 37) rfl (by decide) hg' hin (ag21 I) ?_
    | refine W1.again (sm := 37) rfl (by decide) hg' hin (ag23 I) ?_
    | refine W1.again (sm := 37) rfl (by decide) hg' hin (ag26 I) ?_
    | refine W1.again (sm := 37) rfl (by decide) hg' hin (ag29 I) ?_
    | refine W1.again (sm := 37) rfl (by decide) hg' hin (ag32 I) ?_
    | refine W1.again (sm := 37) rfl (by decide) hg' hin (ag35 I) ?_
    | refine WC.mono (root_end hM1 hM2 ?_ ?_ ?_) (fun x L1 M1 h => ?_)
    | refine WC.seq ?_
    | refine WC.region ?_
    | refine WO.nil ?_
    | refine WO.cons ?_
    | refine W1.guard_y rfl (by first | assumption | rfl) ?_
    | refine W1.pick_t rfl (by first | assumption | rfl) rfl ?_
    | refine W1.mv rfl ?_
    | refine W1.mkfn rfl rfl ?_
    | refine W1.alloc rfl (fun bb => ?_)
  · simp only [List.length_append, List.length_nil]; omega
  · simp only [List.length_append, List.length_nil]; omega
  · repeat (first | exact subL.nil _ | refine subL.cons rfl ?_)
  · cases x with
    | normal => obtain ⟨vs, hr, hK⟩ := h; exact ⟨vs, fun τ hh hl hs => hr τ hh hl (hs.freeze .here), hK⟩
    | ret => obtain ⟨vs, hr, hK⟩ := h; exact ⟨vs, fun τ hh hl hs => hr τ hh hl (hs.freeze .here), hK⟩
    | _ => exact h
end Go.Ax
end
