/- views: how the law's second argument is opened. -/
import Derived.Test.YtgjglabfajbofaaM1
import Derived.Test.YtgjglabfajbofaaV8
namespace Go.Proofs.Ytgjglabfajbofaa
open Go.RowKit
theorem opensPair (w : World) : Opens Try.prog w 30 p2 (fun _ => True) := by
  intro H encH base spare held n cs x h
  obtain ⟨y, e, _⟩ := opens_pair Try.underlying30 (k := 1) (by kernel_rfl) (opens_int (w := w) Try.underlying3) (by kernel_rfl) H encH base spare held n cs x h
  exact ⟨y, e, trivial⟩
end Go.Proofs.Ytgjglabfajbofaa
