/-
The fixed fact of the laws of package ring: the call answers true, whatever the memory. No condition.
-/
import Derived.Test.YtljncbbajhoocaaRingIOwn
import Derived.Test.YtljncbbajhoocaaRingSOwn
namespace Go.Proofs.Ytljncbbajhoocaa.RingI
open Go.RowKit Go.Proofs.Ytljncbbajhoocaa.Args
set_option maxHeartbeats 2000000 in
set_option maxRecDepth 100000 in
theorem awake_calls (w : World) : Calls Try.prog 33 #[] w fun e w' => e = .returned (.bool true) ∧ Below w.heap.size w w' := by
  go_enter Try.func33, Try.ntmps33
  go_wp2_with fail
  refine (own_new w 2 2 2 w (Below.refl _ _) (by omega) (by decide) (by decide)).mono ?_
  rintro e w1 ⟨rfl, h1⟩
  obtain ⟨R, hR⟩ : ∃ R, R = w.heap.size := ⟨_, rfl⟩
  rw [← hR] at h1 ⊢
  have H1 := Lib.hid h1
  clear h1 hR
  go_wp2_with fail
  refine (own_put w R none 2 [] 5 w1 H1.out (by decide)).mono ?_
  rintro e w2 ⟨rfl, B2, h2⟩
  have H2 := Lib.hid h2
  clear h2
  go_wp2_with fail
  refine (own_put w R B2 2 [5] 6 w2 H2.out (by decide)).mono ?_
  rintro e w3 ⟨rfl, B3, h3⟩
  have H3 := Lib.hid h3
  clear h3
  go_wp2_with fail
  refine (own_put_full w R B3 2 [5, 6] 7 w3 H3.out rfl).mono ?_
  rintro e w4 ⟨rfl, h4⟩
  have H4 := Lib.hid h4
  clear h4
  go_wp2_with fail
  refine (own_take w R B3 2 [6] 5 w4 H4.out).mono ?_
  rintro e w5 ⟨rfl, h5⟩
  have H5 := Lib.hid h5
  clear h5
  go_wp2_with fail
  refine (own_len w R B3 2 [6] w5 H5.out).mono ?_
  rintro e w6 ⟨rfl, h6⟩
  have H6 := Lib.hid h6
  clear h6
  go_wp2_with fail
  refine (own_room w R B3 2 [6] w6 H6.out).mono ?_
  rintro e w7 ⟨rfl, h7⟩
  have H7 := Lib.hid h7
  clear h7
  go_wp2_with fail
  go_ret
  exact ⟨rfl, H7.out.below⟩
end Go.Proofs.Ytljncbbajhoocaa.RingI
