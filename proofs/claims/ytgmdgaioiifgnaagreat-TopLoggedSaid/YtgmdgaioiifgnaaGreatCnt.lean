/- strings.Count at a text of one byte. -/
import Derived.Test.YtgmdgaioiifgnaaGreatEsc
import Derived.Test.YtgmdgaioiifgnaaGreatProg
import Derived.Laws.Externs
set_option linter.unusedVariables false
set_option linter.unusedSimpArgs false
namespace Go.Proofs.YtgmdgaioiifgnaaGreat
open Go.RowKit Go.Proofs.YtgmdgaioiifgnaaGreatW.PrintWords
set_option maxHeartbeats 400000 in
set_option maxRecDepth 100000 in
theorem count1_calls (s : ByteArray) (c : UInt8) (w : World) : Calls Tryz.prog 165 #[.string s, .string ⟨#[c]⟩] w fun e w' => e = .returned (.int .i64 (cntB s c)) ∧ w = w' := by
  have hc : ∀ w : World, (callFunc 167 #[.string s, .int .u8 ((⟨#[c]⟩ : ByteArray)[0]'(by show 0 < 1; omega)).toNat]).run Tryz.prog w = .ok (.value (.int .i64 (cntB s c))) w := fun w => by
    show (callFunc 167 #[.string s, .int .u8 c.toNat]).run Tryz.prog w = _
    rw [run_callFunc_extern Tryz.func167 (by kernel_rfl) (by kernel_rfl) (by kernel_rfl) (e := fun args => Extern.BytealgCount.count args) (by kernel_rfl), Lib.run_countString]
    simp [cntB, Result.andThen]
  have h1 : ((⟨#[c]⟩ : ByteArray).size : Int) = 1 := rfl
  go_enter Tryz.func165, Tryz.ntmps165
  go_wp2
  go_ret
  exact ⟨rfl, rfl⟩
end Go.Proofs.YtgmdgaioiifgnaaGreat
