/-
  TopAnewWax: whatever store, head, heads and amounts come in (of bulk at most 1,048,576), the law returns true, and what came in reads as it did.
  Conditions: none beyond the statement's own (its bulk, what the listed variables hold, tied to the program's text, and what the statement's terms say of the program and of the model).
-/
import Derived.Test.YtbgnifoklhediaaGreatDoorE4
import Derived.Test.YtbgnifoklhediaaGreatDoorA6
import Derived.Test.YtbgnifoklhediaaGreatDoorCards
import Derived.Test.YtbgnifoklhediaaGreatDoorTie
import Derived.Lib.LaidTab
import Derived.Stop.LaidErr
import Derived.WalkKit
import Derived.ProofKit
import Derived.OpenShut
import Derived.JoinedCond
import Derived.Carry
import Derived.Deep.DeepHandedRow
set_option linter.unusedSectionVars false
set_option linter.unusedVariables false
set_option linter.unusedSimpArgs false
section
namespace Go.Ax
open Go.Ax.Ir Go.Ax.Kr Go.Proofs Go.Proofs.YtbgnifoklhediaaGreatDoor
set_option maxRecDepth 100000
def z32 : List Nat := [0, 1, 28, 2, 29, 14, 24, 3, 30, 22, 20, 15, 25, 17, 4, 8, 31, 27, 13, 23, 21, 19, 16, 7, 26, 12, 18, 6, 11, 5, 10, 9]
def z64 : List Nat := [0, 1, 56, 2, 57, 49, 28, 3, 61, 58, 42, 50, 38, 29, 17, 4, 62, 47, 59, 36, 45, 43, 51, 22, 53, 39, 33, 30, 24, 18, 12, 5, 63, 55, 48, 27, 60, 41, 37, 16, 46, 35, 44, 21, 52, 32, 23, 11, 54, 26, 40, 15, 34, 20, 31, 10, 25, 14, 19, 9, 13, 8, 7, 6]
def toZ (l : List Nat) : List Int := l.map fun n => Int.ofNat n
theorem var_heap {P : Program} {w : World} {name : String} {g : Nat} {arr : Array Value} (hg : P.globalNamed name = some g) (h : w.var? P name = some arr) : ∃ el fz, w.heap[g]? = some (.cells arr el fz) := by
  unfold World.var? at h
  rw [hg] at h
  simp only [Option.bind_some] at h
  split at h
  · rename_i cs el fz e; cases h; exact ⟨el, fz, e⟩
  · cases h
theorem t8_at : ∀ (l : List Nat) (i : Nat) (v : V), (t8 l)[i]? = some v → ∃ n : Nat, v = .int .u8 n ∧ l[i]? = some n
  | [], i, v, h => by cases i <;> cases h
  | n :: l, 0, v, h => by cases h; exact ⟨n, rfl, rfl⟩
  | n :: l, i + 1, v, h => by
    obtain ⟨m, e1, e2⟩ := t8_at l i v (by rw [← h]; rfl)
    exact ⟨m, e1, by rw [← e2]; rfl⟩
theorem t8_len : ∀ l : List Nat, (t8 l).length = l.length
  | [] => rfl
  | n :: l => congrArg Nat.succ (t8_len l)
theorem br_tab {P : Program} {w : World} {m : GM} {name : String} {g : Nat} {l : List Nat} (hg : P.globalNamed name = some g) (h : Lib.TabIs P w name .u8 (toZ l)) : g < w.heap.size ∧ BR (CRc P) m ⟨g, 0, l.length, false⟩ w (.arr (t8 l) { ro := true } : Blk FnR) := by
  obtain ⟨el, fz, e⟩ := var_heap hg h
  refine ⟨(Array.getElem?_eq_some_iff.1 e).1, _, el, fz, e, fun i v hi => ?_, ?_, ⟨by rw [t8_len]; exact Nat.le_refl _, Nat.zero_le _⟩, fun h => by cases h⟩
  · obtain ⟨n, rfl, hn⟩ := t8_at l i v hi
    refine ⟨rfl, .int .u8 n, ?_, .int _ _⟩
    simp only [Nat.zero_add, List.getElem?_toArray, toZ, List.map_map, List.getElem?_map, hn]
    rfl
  · simp [toZ]
theorem startR {P : Program} {w : World} (hg0 : P.globalNamed "math/bits.deBruijn32tab" = some 0) (hg1 : P.globalNamed "math/bits.deBruijn64tab" = some 1) (h0 : Lib.TabIs P w "math/bits.deBruijn32tab" .u8 (toZ z32)) (h1 : Lib.TabIs P w "math/bits.deBruijn64tab" .u8 (toZ z64)) : ∃ n0 g0 m0, Inp P w n0 g0 m0 ∧ TabG tbR g0 := by
  let m0 : GM := fun b => if b = 0 then some ⟨0, 0, 32, false⟩ else if b = 1 then some ⟨1, 0, 64, false⟩ else none
  let g0 : Gz := fun b => if b = 0 then some (.arr tb0 { ro := true }) else if b = 1 then some (.arr tb1 { ro := true }) else none
  have gl2 : ∀ k ∈ Globs.gl, k = 0 ∨ k = 1 := fun k hk => by simpa [Globs.gl] using hk
  refine ⟨2, g0, m0, ⟨fun k hk => ?_, fun b hb => ?_, fun b hb => ?_⟩, fun k hk => ?_⟩
  · rcases gl2 k hk with rfl | rfl
    · exact ⟨32, rfl⟩
    · exact ⟨64, rfl⟩
  · have e0 : b ≠ 0 := by omega
    have e1 : b ≠ 1 := by omega
    exact ⟨by simp only [g0, if_neg e0, if_neg e1], by simp only [m0, if_neg e0, if_neg e1]⟩
  · rcases (show b = 0 ∨ b = 1 by omega) with rfl | rfl
    · obtain ⟨q1, q2⟩ := br_tab (m := m0) hg0 h0
      exact ⟨⟨0, 0, 32, false⟩, tb0, rfl, rfl, rfl, q1, q2, V.insD_imp (fun _ h => h.elim) (t8_dom z32)⟩
    · obtain ⟨q1, q2⟩ := br_tab (m := m0) hg1 h1
      exact ⟨⟨1, 0, 64, false⟩, tb1, rfl, rfl, rfl, q1, q2, V.insD_imp (fun _ h => h.elim) (t8_dom z64)⟩
  · rcases gl2 k hk with rfl | rfl <;> rfl
end Go.Ax
end
section
namespace Go.Proofs.YtbgnifoklhediaaGreatDoor.topAnewWax
open Go.ChangeShapes Go.WideShapes Go.ChangeAt Go.RowKit
open Go.Ax Go.Ax.Ir
set_option maxRecDepth 100000
theorem own : ownKnob Tryz.prog.godebug = none := by kernel_rfl
theorem ftOk : FtOk Tryz.prog rft := rootFt_ok Kr.mixOk tblOk Tryz.func5 c5 rfl Kr.awakeOk
theorem gTab0 : Tryz.prog.globalNamed "math/bits.deBruijn32tab" = some 0 := by kernel_rfl
theorem gTab1 : Tryz.prog.globalNamed "math/bits.deBruijn64tab" = some 1 := by kernel_rfl
theorem tables {W : World} (h : laidMetH Tryz.prog Rows.topAnewWaxUptoRow.laid W) : Lib.TabIs Tryz.prog W "math/bits.deBruijn32tab" .u8 (toZ z32) ∧ Lib.TabIs Tryz.prog W "math/bits.deBruijn64tab" .u8 (toZ z64) := by
  have h' : laidMet Tryz.prog [("math/bits.deBruijn32tab", Lib.tabData .u8 (toZ z32)), ("math/bits.deBruijn64tab", Lib.tabData .u8 (toZ z64))] W := h
  exact ⟨Lib.tabIs_of_head gTab0 (by kernel_rfl) (t := 154) (e := 5) (n := 32) (by kernel_rfl) Tryz.underlying5 (by kernel_rfl) (by kernel_rfl) h', Lib.tabIs_of_head gTab1 (by kernel_rfl) (t := 155) (e := 5) (n := 64) (by kernel_rfl) Tryz.underlying5 (by kernel_rfl) (by kernel_rfl) h'.tail⟩
theorem laid : laidOutB Tryz.prog = true := by kernel_rfl
theorem walk {H : Type} {enc : TypeId × Value → H} {W : World} {base : Nat} {v0 : Value} {d : DataW H} {ps : List MemPlace} (hok : Value.okWide Tryz.prog W .any base 30 v0)
    (hd : DataW.Trod enc Tryz.prog W 0 (fun _ => true) true 30 v0 d ps) (hb : Rows.uptoBulk d ≤ 1048576) (hL : laidMetH Tryz.prog Rows.topAnewWaxUptoRow.laid W) : Calls Tryz.prog 3 #[v0] W fun e w' => e = .returned (.bool true) ∧ Below W.heap.size W w' :=
  root_calls (F := 20) (tys := tyAnew) (tb := Kr.tbR) Kr.mixOk ftOk (by kernel_rfl) Tryz.underlying30 (fun g vs b h1 h2 h3 h4 => f3 h1 h2 h3 h4) hok hd hb (startR gTab0 gTab1 (tables hL).1 (tables hL).2)
theorem contract (H : Type) (enc : TypeId × Value → H) (W : World) (base : Nat) (args : Array Value) (ds gs : List (DataW H)) (before : List MemPlace)
    (hval : ∀ (j : Nat) t v, Tryz.f3.params[j]? = some t → args[j]? = some v → Value.okWide Tryz.prog W .any base t v)
    (hW : DataW.Whole enc Tryz.prog Tryz.f3.params.toList Rows.topAnewWaxSpec.vars false W args.toList ds gs before) (hk : Rows.uptoSmall H (ds ++ gs) = true) (hL : laidMetH Tryz.prog Rows.topAnewWaxUptoRow.laid W) :
    Calls Tryz.prog 3 args W fun e W' => ∃ v, e = .returned v ∧ Rows.topAnewWaxSpec.post enc Tryz.prog Tryz.f3 false true false false W args v W' := by
  have hW' := hW
  obtain ⟨p, q, hA0, hV, rfl, hfz, hnd⟩ := hW
  have hA : DataW.TrodAll enc Tryz.prog W 0 (fun _ => true) true Tryz.f3.params.toList args.toList ds p := hA0
  rw [Tryz.params3] at hA hval
  obtain ⟨v0, vs0, d0, ds0, p0, q0, hargs, rfl, rfl, h0, r0⟩ := trodAll_cons hA
  obtain ⟨rfl, rfl, rfl⟩ := trodAll_nil r0
  obtain rfl : args = #[v0] := by cases args; simp_all
  obtain ⟨rfl, rfl⟩ := trodVars_none hV
  clear hA0
  have hlt := hW'.lt
  simp only [List.append_nil] at hW' hk hlt
  have hb : Rows.uptoBulk d0 ≤ 1048576 := by
    have h : Rows.uptoBulkAll [d0] ≤ 1048576 := of_decide_eq_true hk
    simp only [Rows.uptoBulkAll] at h
    omega
  refine (walk (hval 0 30 v0 rfl rfl) h0 hb hL).mono fun e W' ⟨he, hg⟩ => ?_
  subst he
  refine ⟨_, rfl, [d0], [], p0, [], p0, [], by simpa using hW', trodAll_cons_mk (shut_bool Tryz.underlying4 _) trodAll_mk0, ?_, rfl, World.keptBut_mono (fun x hx => ⟨hx, Or.inr (Or.inl hx)⟩) (hg.frame (· ∈ p0)), fun h => by cases h⟩
  have := trodAll_cons_mk (WideElems.Trod_stays laid (by kernel_rfl) (of_decide_eq_true (by kernel_rfl)) h0 (fun x hx => hg.same (hlt x hx)) (fun x hx => by simpa using hlt x hx)) (trodAll_mk0 (enc := enc) (P := Tryz.prog) (w := W') (base := 0) (spare := fun b => decide (b < W.heap.size)) (held := true))
  rw [List.append_nil] at this
  exact this
noncomputable abbrev arg0 : Value := .agg #[.int .i64 0, .int .i64 0, .int .i64 0, .int .i64 0, .slice none 0 0, .slice none 0 0, .int .i64 0, .slice none 0 0, .int .i64 0, .int .i64 0, .int .i64 0]
noncomputable def tabV (l : List Nat) : Array Value := ((toZ l).map fun n => Value.int .u8 n).toArray
noncomputable def laidWorld0 (os : Os) : World :=
  { World.holding Tryz.prog os ⟨#[], #[], []⟩ with heap := (World.holding Tryz.prog os ⟨#[], #[], []⟩).heap.modify 0 fun
      | .cells _ t frozen => .cells (tabV z32) t frozen
      | o => o }
noncomputable def laidWorld (os : Os) : World :=
  { laidWorld0 os with heap := (laidWorld0 os).heap.modify 1 fun
      | .cells _ t frozen => .cells (tabV z64) t frozen
      | o => o }
theorem laid_met (os : Os) : laidMet Tryz.prog Rows.topAnewWaxUptoRow.laid ((laidWorld os).forCall (fun _ _ => 0) ⟨#[], #[arg0], []⟩).memory :=
  laidMet_of_run' 8 (by kernel_rfl) (by kernel_rfl)
theorem reads (os : Os) {H : Type} (enc : TypeId × Value → H) : ∃ places, DataW.whole enc Tryz.prog ((laidWorld os).forCall (fun _ _ => 0) ⟨#[], #[arg0], []⟩).memory Tryz.f3.params.toList Rows.topAnewWaxSpec.vars false #[arg0].toList 8 = some ([.agg [.agg [.agg [.lit (.int .i64 0), .lit (.int .i64 0), .lit (.int .i64 0)], .lit (.int .i64 0), .nil, .nil], .lit (.int .i64 0), .nil, .agg [.lit (.int .i64 0), .lit (.int .i64 0), .lit (.int .i64 0)]]], [], places) :=
  ⟨[], by kernel_rfl⟩
set_option maxRecDepth 100000 in
theorem lifted (os : Os) (started : os.Started) (H : Type) (enc : TypeId × Value → H) (F : Stop.Interp) :
    ReturnsInHanded {} Tryz.checked os 3 .any ((Rows.OpenSpec.upto Rows.topAnewWaxSpec).preRow enc Tryz.prog Tryz.f3 Rows.topAnewWaxUptoRow.domain false Rows.topAnewWaxUptoRow.laid) (((Rows.OpenSpec.upto Rows.topAnewWaxSpec).at F).post enc Tryz.prog Tryz.f3 false true false false) := by
  obtain ⟨places, hx⟩ := reads os enc
  refine returnsInHanded_of_row (C := Tryz.checked) (s := Rows.OpenSpec.upto Rows.topAnewWaxSpec) own started (by kernel_rfl) Tryz.func3
    (witness_row_at (enc := enc) (C := Tryz.checked) false (laidWorld os) #[arg0] rfl (by kernel_rfl) (by kernel_rfl) (by kernel_rfl)
      (OpenSpec.preRow_of_cond 8 hx (by kernel_rfl) (fun k hk => by cases hk; kernel_rfl) (by kernel_rfl) (laid_met os))) ?_
  intro W base args ds gs before hval hW hk1 hk2 hk3 hL _ _
  exact contract H enc W base args ds gs before hval hW (hk2 _ rfl) hL
theorem saidUpto : Rows.TopAnewWaxUptoSaid :=
  OpenClaim.holds_of_cond 3 Tryz.f3 rfl rfl rfl rfl rfl rfl rfl ⟨rfl, rfl, rfl, rfl, rfl⟩ rfl rfl rfl rfl rfl (by kernel_rfl) Tryz.func3 (by kernel_rfl)
    (of_decide_eq_true (by kernel_rfl)) (by unfold Func.isWrapper; first | (rw [if_pos (by decide +kernel)]; kernel_rfl) | (rw [if_neg (by decide +kernel)]; exact ⟨rfl, rfl⟩))
    (fun os started H enc _ F => by rw [OpenClaim.pre_eq_preRow]; exact lifted os started H enc F)
theorem plain (f : FuncId) (fn : Func) (hf : Tryz.pinned.checked.prog.funcNamed "ceroplast/ceroplasttop.TopAnewWax" = some f) (hfn : Tryz.pinned.checked.prog.funcs[f]? = some fn) :
    false = Tryz.pinned.checked.prog.looks [] ∧ ∀ (j : Nat) t, fn.params[j]? = some t → Tryz.pinned.checked.prog.wantsStandIn t = false := by
  obtain rfl : f = 3 := Option.some.inj ((show Tryz.prog.funcNamed "ceroplast/ceroplasttop.TopAnewWax" = some 3 by kernel_rfl).symm.trans hf) |>.symm
  obtain rfl : fn = Tryz.f3 := (Option.some.inj (Tryz.func3.symm.trans hfn)).symm
  refine ⟨by kernel_rfl, fun j t ht => ?_⟩
  rw [Tryz.params3] at ht
  obtain rfl : t = 30 := by simpa using Array.mem_of_getElem? ht
  exact (show Tryz.prog.wantsStandIn 30 = false by kernel_rfl)
theorem proved : Rows.TopAnewWaxUptoCardSaid :=
  Claim7.holds_tied_plain_at .later [] _ _ _ _ saidUpto (fun _ h => by cases h) (by kernel_rfl) (fun _ h => by cases h) topAnewWaxUpto_row_tie rfl ⟨rfl, rfl⟩ (by kernel_rfl) rfl plain (by kernel_rfl)
#print axioms proved
end Go.Proofs.YtbgnifoklhediaaGreatDoor.topAnewWax
end
