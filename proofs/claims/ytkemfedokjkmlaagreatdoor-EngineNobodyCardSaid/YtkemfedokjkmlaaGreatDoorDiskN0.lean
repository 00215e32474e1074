/- Disks that no call made: none and Read. -/
import Derived.Test.YtkemfedokjkmlaaGreatDoorBase
import Derived.WalkKit
import Derived.WalkSpells
import Derived.Test.YtkemfedokjkmlaaGreatDoorProg
namespace Go.Proofs.YtkemfedokjkmlaaGreatDoor
open Go.RowKit Go.Sort

/-- A disk that no call made: nil, or without a map. -/
def NoDisk (w : World) (o : Option Addr) : Prop := o = none ∨ ∃ b, o = some ⟨b, 0, none⟩ ∧ w.cell? ⟨b, 0, none⟩ = some (.map none)
theorem NoDisk.ext {w w' : World} {o : Option Addr} (h : NoDisk w o) (hx : Ext w w') : NoDisk w' o := by
  rcases h with h | ⟨b, h, hc⟩
  · exact .inl h
  · exact .inr ⟨b, h, by rw [hx.cell (p := ⟨b, 0, none⟩) (World.block_lt_of_cell? w _ hc)]; exact hc⟩

set_option maxHeartbeats 1000000 in
theorem none_nobody {w : World} {o : Option Addr} (h : NoDisk w o) :
    Calls Tryz.prog 46 #[.pointer o] w fun e w' => e = .returned (.bool true) ∧ w = w' := by
  have hn := fun (w : World) => run_eql_map_nil (P := Tryz.prog) w 32 _ _ none Tryz.underlying32
  rcases h with rfl | ⟨b, rfl, hc⟩
  all_goals
    go_enter Tryz.func46, Tryz.ntmps46
    go_wp2
    go_ret
    exact ⟨rfl, rfl⟩

set_option maxHeartbeats 1000000 in
theorem read_nobody {w : World} {o : Option Addr} (h : NoDisk w o) (s : ByteArray) :
    Calls Tryz.prog 15 #[.pointer o, .string s] w fun e w' => e = .returned (.tuple #[.slice none 0 0, .int .i64 1]) ∧ w = w' := by
  have H := Lib.hid h; clear h
  go_enter Tryz.func15, Tryz.ntmps15
  go_wp2_with (go_at_call 46; refine (none_nobody H.out).mono ?_; rintro e w' ⟨rfl, rfl⟩)
  go_ret2
  exact ⟨rfl, rfl⟩

end Go.Proofs.YtkemfedokjkmlaaGreatDoor
