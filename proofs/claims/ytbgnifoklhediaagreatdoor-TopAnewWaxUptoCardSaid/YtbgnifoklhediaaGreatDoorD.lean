import Derived.Test.YtbgnifoklhediaaGreatDoorA5
import Derived.Test.YtbgnifoklhediaaGreatDoorC
import Derived.Test.YtbgnifoklhediaaGreatDoorA4
set_option linter.unusedSectionVars false
set_option linter.unusedVariables false
set_option linter.unusedSimpArgs false
section
namespace Go.Ax.Kr
open Go.Ax.Ir Go.Ax.K
set_option maxRecDepth 100000
noncomputable section
def t8 : List Nat → List V := fun l => List.rec (motive := fun _ => List V) [] (fun n _ ih => .int .u8 (Int.ofNat n) :: ih) l
def tb0 : List V := t8 [0, 1, 28, 2, 29, 14, 24, 3, 30, 22, 20, 15, 25, 17, 4, 8, 31, 27, 13, 23, 21, 19, 16, 7, 26, 12, 18, 6, 11, 5, 10, 9]
def tb1 : List V := t8 [0, 1, 56, 2, 57, 49, 28, 3, 61, 58, 42, 50, 38, 29, 17, 4, 62, 47, 59, 36, 45, 43, 51, 22, 53, 39, 33, 30, 24, 18, 12, 5, 63, 55, 48, 27, 60, 41, 37, 16, 46, 35, 44, 21, 52, 32, 23, 11, 54, 26, 40, 15, 34, 20, 31, 10, 25, 14, 19, 9, 13, 8, 7, 6]
def tlR : LB := [(0, .arr tb0 { ro := true }), (1, .arr tb1 { ro := true })]
def ot0 (_ : Nat) : List Ent := []
theorem tkO : TabO tk tblA := fun f kf h => tkOk.2 f kf h
theorem awakeRun : trueO tk ot0 60 36 2 tlR = true := by kernel_rfl
end
end Go.Ax.Kr
end
section
namespace Go.Ax.Kr
open Go.Ax.Ir Go.Ax.K Go.Proofs
set_option maxRecDepth 100000
noncomputable def tbR (k : Nat) : List V := if k = 0 then tb0 else tb1
theorem mixOk : Tryz.prog.follows .mixedOrders = true := Tryz.checked.mixed
theorem tblAOk : TblOk Tryz.prog tblA := by
  intro f ifn h
  unfold tblA at h
  by_cases h5 : f = 5
  · subst h5; cases h; exact ⟨_, Tryz.func5, c5⟩
  · rw [if_neg h5] at h
    by_cases h39 : f = 36
    · subst h39; cases h; exact ⟨_, Tryz.func36, c36⟩
    · rw [if_neg h39] at h
      exact tblOk f ifn h
theorem ot0Ok : ∀ f, ∀ e ∈ ot0 f, e.f = f ∧ EntOk Tryz.prog e := by intro f e he; cases he
theorem t8_dom : ∀ l : List Nat, V.insD (fun _ => False) (t8 l)
  | [] => trivial
  | n :: l => ⟨trivial, t8_dom l⟩
theorem tabsR {h : HP} (ht : TabIn tbR h) : Tabs (mkH 2 tlR) h := by
  intro b o e
  have hm : (b, o) ∈ tlR := putLB_mem e
  simp only [tlR, List.mem_cons, List.mem_nil_iff, or_false, Prod.mk.injEq] at hm
  rcases hm with ⟨rfl, rfl⟩ | ⟨rfl, rfl⟩
  · exact ⟨by decide, _, rfl, t8_dom _, ht 0 (by decide)⟩
  · exact ⟨by decide, _, rfl, t8_dom _, ht 1 (by decide)⟩
theorem awakeOk (h : HP) (ht : TabIn tbR h) : CallOk Tryz.prog 36 [] h (.bool true) h := trueO_ok mixOk tblAOk tkO ot0Ok awakeRun (by intro k hk; have : k = 0 ∨ k = 1 := by simpa [Globs.gl] using hk
                                                                                                                                      omega) h (tabsR ht)
end Go.Ax.Kr
end
