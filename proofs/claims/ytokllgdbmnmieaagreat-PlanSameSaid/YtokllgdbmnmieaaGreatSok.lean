/- A row of structs as the sort's kit holds it, and as it leaves it. -/
import Derived.Test.YtokllgdbmnmieaaGreatEnc
import Derived.Shelf.SlSortCmp.InsertionK
namespace Go.Proofs.YtokllgdbmnmieaaGreat
open Go Go.RowKit Go.Sort Go.Lib
variable {α : Type} [Inhabited α] {enc : α → List Value} {s : Nat}

theorem flat_at (hs : ∀ x, (enc x).length = s) (h0 : 0 < s) (l : List α) (t : Nat) (ht : t < l.length * s) : (l.flatMap enc)[t]? = some (flatK enc s l.toArray)[t]! := by
  have hk : t / s < l.length := Nat.div_lt_of_lt_mul (by rw [Nat.mul_comm]; exact ht)
  have hm : t % s < (enc l[t / s]).length := by rw [hs]; exact Nat.mod_lt _ h0
  have h1 := enc_at hs l (t / s) _ (List.getElem?_eq_getElem hk) (t % s) _ (List.getElem?_eq_getElem hm)
  rw [Nat.mul_comm, Nat.div_add_mod] at h1
  rw [h1, get_flatK _ _ _ _ (by simpa using ht)]
  congr 1
  have e1 : l.toArray[t / s]! = l[t / s] := by rw [getElem!_pos _ _ (by simpa using hk)]; simp
  rw [e1]
  exact (getElem!_pos (enc l[t / s]) (t % s) hm).symm

theorem flat_list (hs : ∀ x, (enc x).length = s) (h0 : 0 < s) (l : List α) : (flatK enc s l.toArray).toList = l.flatMap enc := by
  apply List.ext_getElem?
  intro t
  rcases Nat.lt_or_ge t (l.length * s) with h | h
  · rw [flat_at hs h0 l t h, Array.getElem?_toList, getElem!_pos _ t (by simpa using h), Array.getElem?_eq_getElem (by simpa using h)]
  · rw [List.getElem?_eq_none (by simpa using h), List.getElem?_eq_none (by rw [enc_len hs]; exact h)]

/-- The row holds. -/
theorem holds_row (hs : ∀ x, (enc x).length = s) (h0 : 0 < s) {w : World} {g n cap : Nat} {cur : Array Value} {e : TypeId} {l : List α} (hb : w.heap[g]? = some (.cells cur e (0, 0))) (hn : l.length = n) (ht : cur.toList.take (n * s) = l.flatMap enc) :
    HoldsK enc s w g 0 l.toArray := by
  intro j hj
  have hj' : j < l.length * s := by simpa using hj
  refine ⟨?_, free_of_block hb _⟩
  rw [cell_of_block hb, Nat.zero_add]
  have h1 : (cur.toList.take (n * s))[j]? = cur[j]? := by
    rw [List.getElem?_take, if_pos (by rw [← hn]; exact hj'), Array.getElem?_toList]
  rw [← h1, ht, flat_at hs h0 l j hj']
  rfl

theorem heap_sortedK {w : World} {g n : Nat} {os : Array Obj} {cur : Array Value} {e : TypeId} (d : Array α) (hb : w.heap[g]? = some (.cells cur e (0, 0))) :
    (sortWorldK enc s w g 0 n d os).heap[g]? = some (.cells (putCells id 0 (flatK enc s d) cur) e (0, 0)) := by
  unfold sortWorldK putRowK
  rw [heap_grow_old _ _ (by simpa using block_lt hb)]
  simp [putRow, mapBlock, Sort.ahead, Array.getElem?_modify, hb, onCells]

theorem grown_sortedK {w : World} {g n : Nat} {os : Array Obj} (d : Array α) : Chg (fun i => i = g) w (sortWorldK enc s w g 0 n d os) := by
  refine ⟨rfl, rfl, rfl, ?_, fun k hk hne => ?_⟩
  · unfold sortWorldK putRowK; simp
  · unfold sortWorldK putRowK
    rw [heap_grow_old _ _ (by simpa using hk)]
    have : g ≠ k := fun e => hne e.symm
    simp [putRow, mapBlock, Sort.ahead, Array.getElem?_modify, this]

/-- What the sort leaves, as a row. -/
theorem row_sortedK (hs : ∀ x, (enc x).length = s) (h0 : 0 < s) {w : World} {g cap n m : Nat} {e : TypeId} {os : Array Obj} {cur : Array Value} {d : Array α} (hd : d.size = n) (hb : w.heap[g]? = some (.cells cur e (0, 0)))
    (h1 : n ≤ cap) (h2 : cap ≤ maxLen) (h3 : cur.size = cap * s) : Row (sortWorldK enc s w g 0 m d os) e s (.slice (some ⟨g, 0, none⟩) n cap) n (d.toList.flatMap enc) := by
  have hds : n * s ≤ cap * s := Nat.mul_le_mul_right _ h1
  refine ⟨by rw [enc_len hs]; simp [hd], .inr ⟨g, cap, _, rfl, Nat.zero_le _, heap_sortedK d hb, h1, h2, by simp [putCells, h3], ?_⟩⟩
  have hfl := flat_list hs h0 d.toList
  rw [Array.toArray_toList] at hfl
  rw [← hfl]
  apply List.ext_getElem?
  intro t
  have hsz : (flatK enc s d).size = n * s := by simp [hd]
  rcases Nat.lt_or_ge t (n * s) with ht | ht
  · rw [List.getElem?_take, if_pos ht, Array.getElem?_toList, Array.getElem?_toList]
    simp only [putCells, Array.getElem?_mapIdx]
    rw [Array.getElem?_eq_getElem (by omega), Option.map_some, if_pos (by rw [hsz]; omega), Array.getElem?_eq_getElem (by rw [hsz]; exact ht), getElem!_pos _ _ (by rw [hsz]; omega)]
    rfl
  · rw [List.getElem?_eq_none (by simp; omega), List.getElem?_eq_none (by rw [Array.length_toList, hsz]; exact ht)]
end Go.Proofs.YtokllgdbmnmieaaGreat
