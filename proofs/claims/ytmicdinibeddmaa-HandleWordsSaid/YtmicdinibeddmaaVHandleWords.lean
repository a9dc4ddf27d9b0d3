/-
  The walk of HandleWords: it returns true at every place, generation and handle, and writes nothing that was there.
-/
import Derived.Test.YtmicdinibeddmaaHandLive
namespace Go.Proofs.Ytmicdinibeddmaa
open Go.RowKit

set_option maxHeartbeats 400000 in
theorem vHandleWords_walk (o g h : Int) (w : World) (_w0 : (Lit.int .i64 o).wf = true) (_w1 : (Lit.int .i64 g).wf = true) (_w2 : (Lit.int .i64 h).wf = true) :
    Calls Try.prog 3 #[.int .i64 o, .int .i64 g, .int .i64 h] w fun e w' => e = .returned (.bool true) ∧ Below w.heap.size w w' := by
  clear _w0 _w1 _w2
  go_enter Try.func3, Try.ntmps3
  go_wp2_with (first
    | (go_at_call 15; refine (put_any _ _ _).mono ?_; rintro e w' ⟨rfl, rfl⟩)
    | (go_at_call 16; refine (rput_any _ _ _).mono ?_; rintro e w' ⟨rfl, rfl⟩)
    | (go_at_call 17; refine (parse_any _ _).mono ?_; rintro e w' ⟨rfl, rfl⟩)
    | (go_at_call 18; refine (rparse_any _ _).mono ?_; rintro e w' ⟨rfl, rfl⟩)
    | (go_at_call 19; refine (num8_any _ _).mono ?_; rintro e w' ⟨rfl, rfl⟩)
    | (go_at_call 20; refine (next_any _ _).mono ?_; rintro e w' ⟨rfl, rfl⟩)
    | (go_at_call 21; refine (rnext_any _ _).mono ?_; rintro e w' ⟨rfl, rfl⟩)
    | (go_at_call 22; refine (live8_any _).mono ?_; rintro e w1 ⟨rfl, hb⟩))
  go_ret
  exact ⟨rfl, hb⟩
end Go.Proofs.Ytmicdinibeddmaa
