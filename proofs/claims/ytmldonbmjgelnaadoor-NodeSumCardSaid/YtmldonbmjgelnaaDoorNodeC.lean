/- Walks of layer 8: may a node be? -/
import Derived.Test.YtmldonbmjgelnaaDoorEq
import Derived.Test.YtmldonbmjgelnaaDoorNibble
set_option linter.unusedSimpArgs false
set_option linter.unusedVariables false
namespace Go.Proofs.YtmldonbmjgelnaaDoor
open Go.RowKit Pl

theorem npath_any (p : Bs) (least : Int) (hs : p.length ≤ 9223372036854775807) (w : World) :
    Calls Tryd.prog 64 #[.string ⟨List.toArray (p)⟩, .int .i64 (least)] w fun e w' => e = .returned (.bool (pathOk p least)) ∧ w = w' := by
  generalize hr : pathOk p least = r
  unfold pathOk at hr
  have HR := Lib.hid hr
  clear hr
  go_enter Tryd.func64, Tryd.ntmps64
  go_wp2_with fail
  refine (nfit_any p hs _).mono ?_
  rintro e w1 ⟨rfl, rfl⟩
  cases hf : fit p
  · rw [hf] at HR
    clear hf
    go_wp2_with fail
    all_goals go_ret
    all_goals exact ⟨by rw [← HR.out]; rfl, rfl⟩
  · rw [hf] at HR
    clear hf
    go_wp2_with fail
    all_goals go_ret
    all_goals (refine ⟨?_, rfl⟩; rw [← HR.out]; simp [*] <;> omega)

theorem sums_nil (w : World) : Calls Tryd.prog 65 #[.slice none 0 0] w fun e w' => e = .returned (.bool (all32 [])) ∧ w = w' := by
  go_enter Tryd.func65, Tryd.ntmps65
  go_wp2_with fail
  go_loop [7] (fun s7 => s7 = .int .i64 0) (fun _ => 0)
  case atStart => rfl
  case round =>
    obtain rfl := hrel
    go_wp2_with fail
    go_ret
    exact ⟨rfl, rfl⟩

theorem all32_not (l : List Bs) (i : Nat) (hi : i < l.length) (h : (l.getD i []).length ≠ 32) : all32 l = false := by
  cases hf : all32 l with
  | false => rfl
  | true =>
    exfalso
    apply h
    have := List.all_eq_true.1 hf (l[i]) (List.getElem_mem hi)
    simpa [List.getD, List.getElem?_eq_getElem hi] using this

theorem sums_own (b off len cap : Nat) (l : List Bs) (hlen : l.length = len) (hmax : len ≤ 9223372036854775807) (w : World) (hc : ∀ i, i < len → w.cell? ⟨b, off + i, none⟩ = some (.string ⟨List.toArray (l.getD i [])⟩)) :
    Calls Tryd.prog 65 #[.slice (some ⟨b, off, none⟩) len cap] w fun e w' => e = .returned (.bool (all32 l)) ∧ w = w' := by
  have HC := Lib.hid hc
  have HL := Lib.hid hlen
  clear hc hlen
  go_enter Tryd.func65, Tryd.ntmps65
  go_wp2_with fail
  go_loop [7] (fun s7 => ∃ i : Nat, i ≤ len ∧ s7 = .int .i64 i ∧ Hid (∀ j, j < i → (l.getD j []).length = 32)) (fun s7 => len - (intOf s7).toNat)
  case atStart => exact ⟨0, by omega, rfl, Lib.hid (fun j hj => by omega)⟩
  case round =>
    obtain ⟨i, hi, rfl, HA⟩ := hrel
    by_cases hlt : i < len
    · have hci := HC.out i hlt
      by_cases h32 : (l.getD i []).length = 32
      · have HN : Hid (∀ j, j < i + 1 → (l.getD j []).length = 32) := Lib.hid (fun j hj => by
          rcases Nat.lt_or_ge j i with h | h
          · exact HA.out j h
          · have : j = i := by omega
            subst this; exact h32)
        generalize l.getD i [] = x at hci h32
        have hb : ((x.length : Int) != 32) = false := by simp; omega
        clear h32
        go_wp2_with fail
        exact ⟨⟨i + 1, by omega, by go_num, HN⟩, by simp [intOf]; omega⟩
      · have HN := Lib.hid (all32_not l i (by rw [HL.out]; exact hlt) h32)
        generalize l.getD i [] = x at hci h32
        have hb : ((x.length : Int) != 32) = true := by simp; omega
        clear h32
        go_wp2_with fail
        go_ret
        exact ⟨by rw [HN.out]; rfl, rfl⟩
    · have HN : Hid (all32 l = true) := Lib.hid (by
        unfold all32
        rw [List.all_eq_true]
        intro s hs
        obtain ⟨j, hj, rfl⟩ := List.getElem_of_mem hs
        have := HA.out j (by have := HL.out; omega)
        simpa [List.getD, List.getElem?_eq_getElem hj] using this)
      go_wp2_with fail
      go_ret
      exact ⟨by rw [HN.out]; rfl, rfl⟩

theorem sums_any (base : Nat) (v : Value) (l : List Bs) (w : World) (h : SRow w base v l) :
    Calls Tryd.prog 65 #[v] w fun e w' => e = .returned (.bool (all32 l)) ∧ w = w' := by
  rcases h.cells with ⟨rfl, rfl⟩ | ⟨g, cap, rfl, hb, hlt, hn, hm, hc, hf⟩
  · exact sums_nil w
  · exact sums_own g 0 l.length cap l rfl (by unfold maxLen at hm; omega) w (fun i hi => by simpa using hc i hi)

end Go.Proofs.YtmldonbmjgelnaaDoor
