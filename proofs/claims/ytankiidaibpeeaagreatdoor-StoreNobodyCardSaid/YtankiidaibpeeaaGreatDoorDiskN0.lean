/- Disks that no call made: none and Read. -/
import Derived.Test.YtankiidaibpeeaaGreatDoorBase
import Derived.WalkKit
import Derived.WalkSpells
import Derived.Test.YtankiidaibpeeaaGreatDoorProg
namespace Go.Proofs.YtankiidaibpeeaaGreatDoor
open Go.RowKit Go.Sort

/-- A disk that no call made: nil, or without a map. -/
def NoDisk (w : World) (o : Option Addr) : Prop := o = none ∨ ∃ b, o = some ⟨b, 0, none⟩ ∧ w.cell? ⟨b, 0, none⟩ = some (.map none)
theorem NoDisk.ext {w w' : World} {o : Option Addr} (h : NoDisk w o) (hx : Ext w w') : NoDisk w' o := by
  rcases h with h | ⟨b, h, hc⟩
  · exact .inl h
  · exact .inr ⟨b, h, by rw [hx.cell (p := ⟨b, 0, none⟩) (World.block_lt_of_cell? w _ hc)]; exact hc⟩

set_option maxHeartbeats 1000000 in
theorem none_nobody {w : World} {o : Option Addr} (h : NoDisk w o) :
    Calls Tryz.prog 38 #[.pointer o] w fun e w' => e = .returned (.bool true) ∧ w = w' := by
  have hn := fun (w : World) => run_eql_map_nil (P := Tryz.prog) w 27 _ _ none Tryz.underlying27
  rcases h with rfl | ⟨b, rfl, hc⟩
  all_goals
    go_enter Tryz.func38, Tryz.ntmps38
    go_wp2
    go_ret
    exact ⟨rfl, rfl⟩

set_option maxHeartbeats 1000000 in
theorem read_nobody {w : World} {o : Option Addr} (h : NoDisk w o) (s : ByteArray) :
    Calls Tryz.prog 13 #[.pointer o, .string s] w fun e w' => e = .returned (.tuple #[.slice none 0 0, .int .i64 1]) ∧ w = w' := by
  have H := Lib.hid h; clear h
  go_enter Tryz.func13, Tryz.ntmps13
  go_wp2_with (go_at_call 38; refine (none_nobody H.out).mono ?_; rintro e w' ⟨rfl, rfl⟩)
  go_ret2
  exact ⟨rfl, rfl⟩

end Go.Proofs.YtankiidaibpeeaaGreatDoor
