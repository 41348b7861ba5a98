/- CertLaw, All, All2. -/
import Derived.Sort.Grow
import Derived.Shelf.SlSortCmp.InsertionK
import Derived.Shelf.SlSortCmp.NoneTotal
import Derived.Test.YtbnjhfkmdejeaaaDoorMg1
import Derived.Test.YtbnjhfkmdejeaaaDoorMg9
import Derived.Test.YtbnjhfkmdejeaaaDoorMg12
import Derived.Test.YtbnjhfkmdejeaaaDoorMg13
set_option linter.unnecessarySimpa false

/- Plain: what is good stays so; the certificate of all who signed; two good ones. -/
set_option linter.unusedSimpArgs false
set_option linter.unusedVariables false
namespace Go.Proofs.YtbnjhfkmdejeaaaDoor
namespace Pl

theorem isIn_mem (L : List Sg) (n m : Bs) : isIn L n m = true ↔ (n, m) ∈ L.map keyOfS := by simp [isIn]
theorem signL_grows (L : List Sg) (who mark : Bs) (h : Bool) (n m : Bs) (hn : isIn L n m = true) : isIn (signL L who mark h).1 n m = true := by
  unfold signL
  split
  · exact hn
  · split
    · exact hn
    · split
      · rename_i hin
        rw [isIn_mem, keys_set L who mark _ hin]
        exact (isIn_mem L n m).1 hn
      · split
        · exact hn
        · rw [isIn_mem] at hn ⊢
          simp only [List.map_append, List.mem_append]
          exact .inl hn
/-- More may be signed. -/
def Grows (L M : List Sg) : Prop := ∀ n m, isIn L n m = true → isIn M n m = true
theorem Grows.refl (L : List Sg) : Grows L L := fun _ _ h => h
theorem Grows.step {L M : List Sg} (h : Grows L M) (who mark : Bs) (b : Bool) : Grows L (signL M who mark b).1 := fun n m hn => signL_grows M who mark b n m (h n m hn)
theorem chkB_grows {L M : List Sg} (h : Grows L M) (m : Bs) (ns : List Bs) (hc : chkB L m ns = true) : chkB M m ns = true := by
  unfold chkB at hc ⊢
  rw [List.all_eq_true] at hc ⊢
  exact fun n hn => h n m (hc n hn)
theorem good_parts {tag : Int} {l : List (Bs × Int)} {d : Bs} {ns : List Bs} {L : List Sg} (h : goodC tag l d ns L = 0) :
    firstC tag l (mayC d ns) = 0 ∧ chkA l ns = true ∧ chkB L (tagP tag.toNat d) ns = true ∧ quoM l ≤ ofM l ns := by
  by_cases h0 : firstC tag l (mayC d ns) = 0
  · rw [goodC_in h0] at h
    unfold goodIn at h
    cases ha : chkA l ns
    · simp [ha] at h
    · cases hb : chkB L (tagP tag.toNat d) ns
      · simp [ha, hb] at h
      · simp only [ha, hb, Bool.true_eq_false, if_false] at h
        by_cases hq : ofM l ns < quoM l
        · rw [if_pos hq] at h; exact absurd h (by decide)
        · exact ⟨h0, rfl, rfl, by omega⟩
  · rw [goodC_out h0] at h
    exact absurd h h0
theorem good_of {tag : Int} {l : List (Bs × Int)} {d : Bs} {ns : List Bs} {L : List Sg} (h0 : firstC tag l (mayC d ns) = 0) (ha : chkA l ns = true) (hb : chkB L (tagP tag.toNat d) ns = true) (hq : quoM l ≤ ofM l ns) : goodC tag l d ns L = 0 := by
  rw [goodC_in h0]
  unfold goodIn
  rw [ha, hb]
  simp only [Bool.true_eq_false, if_false]
  rw [if_neg (by omega)]
theorem good_more {tag : Int} {l : List (Bs × Int)} {d : Bs} {ns : List Bs} {L M : List Sg} (hg : Grows L M) (h : goodC tag l d ns L = 0) : goodC tag l d ns M = 0 := by
  obtain ⟨h1, h2, h3, h4⟩ := good_parts h
  exact good_of h1 h2 (chkB_grows hg _ _ h3) h4
theorem first_true {tag : Int} {l : List (Bs × Int)} (ht : tagC tag = true) (hc : chkM l = true) : firstC tag l true = 0 := by
  simp [firstC, ht, hc]
theorem less_lt0 : ∀ (x y : Bs), Op.bytesLess x y = decide (x < y)
  | [], [] => by simp [Op.bytesLess]
  | _ :: _, [] => by simp [Op.bytesLess]
  | [], _ :: _ => by simp [Op.bytesLess]
  | a :: x, b :: y => by
    rw [Op.bytesLess, less_lt0 x y]
    simp only [List.cons_lt_cons_iff]
    by_cases h1 : a < b <;> by_cases h2 : a = b <;> by_cases h3 : x < y <;> simp [h1, h2, h3]
theorem leS_false (x z : Bs) : leS x z = false ↔ z < x := by
  unfold leS
  rw [Bool.or_eq_false_iff, less_lt0, decide_eq_false_iff_not]
  constructor
  · rintro ⟨h1, h2⟩
    rcases Classical.em (z < x) with h | h
    · exact h
    · have := List.le_antisymm (List.not_lt.1 h) (List.not_lt.1 h1)
      simp [this] at h2
  · intro h
    refine ⟨fun h2 => absurd (List.lt_trans h h2) (List.lt_irrefl z), ?_⟩
    rw [beq_eq_false_iff_ne]
    intro e
    subst e
    exact absurd h (List.lt_irrefl _)
theorem okS_low : ∀ (l : List Bs) {n z : Bs}, okS n l = true → leS n z = false → okS z l = true
  | [], _, _, _, _ => rfl
  | x :: r, n, z, h, hz => by
    simp only [okS, Bool.and_eq_true, Bool.not_eq_true', Bool.or_eq_false_iff, decide_eq_false_iff_not] at h ⊢
    obtain ⟨⟨h1, h2⟩, h5⟩ := h
    exact ⟨⟨(leS_false x z).2 (List.lt_trans ((leS_false n z).1 hz) ((leS_false x n).1 h1)), h2⟩, h5⟩
theorem okS_sorted : ∀ (l : List Bs) (z : Bs), okS z l = true → (∀ x ∈ l, z < x) ∧ l.Pairwise (fun x y => x < y)
  | [], _, _ => ⟨by simp, List.Pairwise.nil⟩
  | n :: r, z, h => by
    simp only [okS, Bool.and_eq_true, Bool.not_eq_true', Bool.or_eq_false_iff, decide_eq_false_iff_not] at h
    obtain ⟨⟨h1, h2⟩, h5⟩ := h
    obtain ⟨h6, h7⟩ := okS_sorted r n h5
    have hzn : z < n := (leS_false n z).1 h1
    exact ⟨fun x hx => by
      rcases List.mem_cons.1 hx with rfl | hx
      · exact hzn
      · exact List.lt_trans hzn (h6 x hx), List.pairwise_cons.2 ⟨h6, h7⟩⟩
theorem okM_okS : ∀ (l : List (Bs × Int)) (z : Bs) (f : Bs × Int → Bool), okM z l = true → okS z ((l.filter f).map (·.1)) = true
  | [], _, _, _ => rfl
  | (n, p) :: r, z, f, h => by
    simp only [okM, Bool.and_eq_true, Bool.not_eq_true', Bool.or_eq_false_iff, decide_eq_false_iff_not] at h
    obtain ⟨⟨⟨⟨h1, h2⟩, h3⟩, h4⟩, h5⟩ := h
    by_cases hf : f (n, p) = true
    · rw [List.filter_cons_of_pos hf]
      simp only [List.map_cons, okS, Bool.and_eq_true, Bool.not_eq_true', Bool.or_eq_false_iff, decide_eq_false_iff_not]
      exact ⟨⟨h2, h1⟩, okM_okS r n f h5⟩
    · rw [List.filter_cons_of_neg hf]
      exact okS_low _ (okM_okS r n f h5) h2
/-- Who signed, of the set: they may be signers. -/
theorem may_sel {l : List (Bs × Int)} {d : Bs} (hc : chkM l = true) (hd : d.length = 32) (L : List Sg) (m : Bs) : mayC d (selN L m l) = true := by
  have hc2 := hc
  simp only [chkM, Bool.and_eq_true, decide_eq_true_eq] at hc2
  have h1 := selN_len L m l
  have h2 := okM_okS l [] (fun x => isIn L x.1 m) hc2.2
  simp only [mayC, Bool.and_eq_true, decide_eq_true_eq]
  exact ⟨⟨hd, by omega⟩, h2⟩
theorem of_one {l : List (Bs × Int)} (hc : chkM l = true) (n : Bs) : ofM l [n] ≠ 0 ↔ ∃ x ∈ l, x.1 = n := by
  have hp : ∀ m ∈ l, 1 ≤ m.2 := by
    have hc2 := hc
    simp only [chkM, Bool.and_eq_true, decide_eq_true_eq] at hc2
    intro m hm
    obtain ⟨i, hi, rfl⟩ := List.getElem_of_mem hm
    have := (okM_at l [] hc2.2 i hi).2.1
    rw [List.getD_eq_getElem?_getD, List.getElem?_eq_getElem hi] at this
    simpa using this
  rw [ofM, if_pos hc]
  clear hc
  have key : ∀ l : List (Bs × Int), (∀ m ∈ l, 1 ≤ m.2) → 0 ≤ sumOf [n] l ∧ (sumOf [n] l ≠ 0 ↔ ∃ x ∈ l, x.1 = n) := by
    intro l
    induction l with
    | nil => intro _; simp [sumOf]
    | cons m r ih =>
      intro hp
      obtain ⟨h1, h2⟩ := ih (fun x hx => hp x (by simp [hx]))
      have h0 := hp m (by simp)
      simp only [sumOf, List.contains_iff_mem, List.mem_singleton]
      by_cases e : m.1 = n
      · rw [if_pos e]
        exact ⟨by omega, ⟨fun _ => ⟨m, by simp, e⟩, fun _ => by omega⟩⟩
      · rw [if_neg e]
        refine ⟨by omega, ⟨fun h => ?_, fun ⟨x, hx, hxe⟩ => ?_⟩⟩
        · obtain ⟨x, hx, hxe⟩ := h2.1 (by omega)
          exact ⟨x, by simp [hx], hxe⟩
        · rcases List.mem_cons.1 hx with rfl | hx
          · exact absurd hxe e
          · have := h2.2 ⟨x, hx, hxe⟩; omega
  exact (key l hp).2
theorem sel_mem (L : List Sg) (m : Bs) (l : List (Bs × Int)) (n : Bs) : n ∈ selN L m l ↔ isIn L n m = true ∧ ∃ x ∈ l, x.1 = n := by
  unfold selN
  simp only [List.mem_map, List.mem_filter]
  constructor
  · rintro ⟨x, ⟨h1, h2⟩, rfl⟩; exact ⟨h2, x, h1, rfl⟩
  · rintro ⟨h1, x, h2, rfl⟩; exact ⟨x, ⟨h2, h1⟩, rfl⟩
theorem gath_parts {tag : Int} {l : List (Bs × Int)} {s : Bs} {L : List Sg} (h : (gathC tag l s L).2 = 0) :
    tagC tag = true ∧ chkM l = true ∧ s.length = 32 ∧ quoM l ≤ ofM l (selN L (tagP tag.toNat s) l) ∧ (gathC tag l s L).1 = (s, selN L (tagP tag.toNat s) l) := by
  by_cases h0 : firstC tag l (decide (s.length = 32)) = 0
  · obtain ⟨h1, h2, h3⟩ := first_zero h0
    rw [gathC_in h0] at h ⊢
    unfold gathIn at h ⊢
    by_cases hq : ofM l (selN L (tagP tag.toNat s) l) < quoM l
    · rw [if_pos hq] at h; exact absurd h (by decide)
    · rw [if_neg hq]
      exact ⟨h2, h3, by simpa using h1, by omega, rfl⟩
  · rw [gathC_out h0] at h
    exact absurd h h0
/-- The certificate of all who signed is good, if it is told. -/
theorem gath_good {tag : Int} {l : List (Bs × Int)} {s : Bs} {L : List Sg} (h : (gathC tag l s L).2 = 0) : goodC tag l (gathC tag l s L).1.1 (gathC tag l s L).1.2 L = 0 ∧ (gathC tag l s L).1.1 = s := by
  obtain ⟨h1, h2, h3, h4, h5⟩ := gath_parts h
  rw [h5]
  refine ⟨good_of (by rw [may_sel h2 h3]; exact first_true h1 h2) ?_ ?_ h4, rfl⟩
  · unfold chkA
    rw [List.all_eq_true]
    intro n hn
    obtain ⟨_, h6⟩ := (sel_mem L _ l n).1 hn
    rw [decide_eq_true_iff]
    exact (of_one h2 n).2 h6
  · unfold chkB
    rw [List.all_eq_true]
    intro n hn
    exact ((sel_mem L _ l n).1 hn).1
/-- If any is good, it is told, and has all of that one's signers. -/
theorem good_gath {tag : Int} {l : List (Bs × Int)} {d : Bs} {ns : List Bs} {L : List Sg} (h : goodC tag l d ns L = 0) :
    (gathC tag l d L).2 = 0 ∧ (∀ both, IsBoth (gathC tag l d L).1.2 ns both → both.length = ns.length) := by
  obtain ⟨h1, h2, h3, h4⟩ := good_parts h
  obtain ⟨hm, ht, hc⟩ := first_zero h1
  obtain ⟨p1, p2, p3, p4⟩ := mayC_parts hm
  have hsub : ∀ n ∈ ns, n ∈ selN L (tagP tag.toNat d) l := by
    intro n hn
    refine (sel_mem _ _ _ _).2 ⟨?_, ?_⟩
    · unfold chkB at h3; rw [List.all_eq_true] at h3; exact h3 n hn
    · unfold chkA at h2; rw [List.all_eq_true] at h2
      have := h2 n hn
      rw [decide_eq_true_iff] at this
      exact (of_one hc n).1 this
  have hle := sum_mono ns (selN L (tagP tag.toNat d) l) hsub l (pow_pos_of hc)
  have h0 : firstC tag l (decide (d.length = 32)) = 0 := by
    rw [show decide (d.length = 32) = true from by simpa using p1]
    exact first_true ht hc
  have hg : gathC tag l d L = ((d, selN L (tagP tag.toNat d) l), 0) := by
    rw [gathC_in h0]
    unfold gathIn
    rw [if_neg]
    simp only [ofM, hc, if_true] at *
    omega
  rw [hg]
  refine ⟨rfl, fun both hb => ?_⟩
  have hso := (okS_sorted ns [] p3).2
  have : both = ns := sorted_uniq both ns hb.1 hso (fun x => ⟨fun hx => ((hb.2 x).1 hx).2, fun hx => (hb.2 x).2 ⟨hsub x hx, hx⟩⟩)
  rw [this]
/-- Two good ones. -/
theorem two_good {tag : Int} {l : List (Bs × Int)} {d e : Bs} {a b both : List Bs} {L : List Sg} (ha : goodC tag l d a L = 0) (hb : goodC tag l e b L = 0) (h : IsBoth a b both) :
    (∀ n ∈ both, isIn L n (tagP tag.toNat d) = true ∧ isIn L n (tagP tag.toNat e) = true) ∧ mostM l < ofM l both ∧ totM l < 3 * ofM l both ∧ tagC tag = true ∧ d.length = 32 ∧ e.length = 32 ∧ chkM l = true := by
  obtain ⟨a1, a2, a3, a4⟩ := good_parts ha
  obtain ⟨b1, b2, b3, b4⟩ := good_parts hb
  obtain ⟨hm, ht, hc⟩ := first_zero a1
  obtain ⟨hm2, _, _⟩ := first_zero b1
  obtain ⟨h1, h2, h3⟩ := over_law hc h
  obtain ⟨h4, h5⟩ := h3 a4 b4
  refine ⟨fun n hn => ?_, h4, h5, ht, (mayC_parts hm).1, (mayC_parts hm2).1, hc⟩
  obtain ⟨na, nb⟩ := (h.2 n).1 hn
  unfold chkB at a3 b3
  rw [List.all_eq_true] at a3 b3
  exact ⟨a3 n na, b3 n nb⟩
end Pl
end Go.Proofs.YtbnjhfkmdejeaaaDoor

/- All signatures, in order: the table's All. -/
set_option linter.unusedSimpArgs false
set_option linter.unusedVariables false
namespace Go.Proofs.YtbnjhfkmdejeaaaDoor
open Go.RowKit Go.Sort Go.Lib Pl

theorem lss_S2 (t : TypeId) (a b : Bs) : binOp .lss t (.string ⟨List.toArray (a)⟩) (.string ⟨List.toArray (b)⟩) = pure (.bool (Op.bytesLess a b)) := by
  rw [binOp_string_lss]
  rw [Lib.toList_data, Lib.toList_data]
theorem gtr_S2 (t : TypeId) (a b : Bs) : binOp .gtr t (.string ⟨List.toArray (a)⟩) (.string ⟨List.toArray (b)⟩) = pure (.bool !(leS a b)) := by
  rw [binOp_string_gtr]
  unfold leS
  rw [Lib.toList_data, Lib.toList_data]
attribute [local go_sem high] lss_S2 gtr_S2

/-- Texts held against one another. -/
def cmpB (x y : Bs) : Int := if Op.bytesLess x y then -1 else if leS x y then 0 else 1
set_option maxRecDepth 100000 in
set_option maxHeartbeats 400000 in
theorem isNaN_any (x : Bs) (w : World) : Calls Tryd.prog 88 #[.string ⟨List.toArray (x)⟩] w fun e w' => e = .returned (.bool false) ∧ w = w' := by
  go_enter Tryd.func88, Tryd.ntmps88
  go_wp2_with fail
  all_goals (go_ret; exact ⟨by simp, rfl⟩)
set_option maxRecDepth 100000 in
set_option maxHeartbeats 400000 in
theorem compare_any (x y : Bs) (w : World) : Calls Tryd.prog 72 #[.string ⟨List.toArray (x)⟩, .string ⟨List.toArray (y)⟩] w fun e w' => e = .returned (.int .i64 (cmpB x y)) ∧ w = w' := by
  generalize hr : cmpB x y = r
  have HR := Lib.hid hr
  clear hr
  go_enter Tryd.func72, Tryd.ntmps72
  go_wp2_with fail
  refine (isNaN_any x _).mono ?_
  rintro e w1 ⟨rfl, rfl⟩
  go_wp2_with fail
  refine (isNaN_any y _).mono ?_
  rintro e w1 ⟨rfl, rfl⟩
  cases h1 : Op.bytesLess x y
  · cases h2 : leS x y
    · have HZ : Hid (1 = r) := Lib.hid (by rw [← HR.out]; simp [cmpB, h1, h2])
      go_wp2_with fail
      all_goals (go_ret; exact ⟨by rw [← HZ.out]; rfl, rfl⟩)
    · have HZ : Hid (0 = r) := Lib.hid (by rw [← HR.out]; simp [cmpB, h1, h2])
      go_wp2_with fail
      all_goals (go_ret; exact ⟨by rw [← HZ.out]; rfl, rfl⟩)
  · have HZ : Hid (-1 = r) := Lib.hid (by rw [← HR.out]; simp [cmpB, h1])
    go_wp2_with fail
    all_goals (go_ret; exact ⟨by rw [← HZ.out]; rfl, rfl⟩)
set_option maxRecDepth 100000 in
set_option maxHeartbeats 400000 in
theorem or_any (a b : Int) (g : Nat) (w : World) (hB : Blk w g #[.int .i64 (a), .int .i64 (b)]) : Calls Tryd.prog 71 #[.slice (some ⟨g, 0, none⟩) 2 2] w fun e w' => e = .returned (.int .i64 (if a ≠ 0 then a else b)) ∧ w = w' := by
  generalize hr : (if a ≠ 0 then a else b) = r
  have HR := Lib.hid hr
  clear hr
  have c0 := hB.cell 0
  have c1 := hB.cell 1
  simp at c0 c1
  clear hB
  by_cases ha : a = 0
  · subst ha
    have HZ : Hid (b = r) := Lib.hid (by rw [← HR.out]; simp)
    clear HR
    by_cases hb : b = 0
    · subst hb
      go_enter Tryd.func71, Tryd.ntmps71
      go_wp2_with fail
      go_loopw [8] (fun s8 wr => (s8 = .int .i64 (0) ∨ s8 = .int .i64 (1) ∨ s8 = .int .i64 (2)) ∧ wr = w) (fun s8 _ => 2 - (intOf s8).toNat)
      case atStart => exact ⟨.inl rfl, rfl⟩
      case round =>
        obtain ⟨rfl | rfl | rfl, rfl⟩ := hrel
        all_goals go_wp2_with fail
        all_goals first
          | (go_ret; exact ⟨by rw [← HZ.out]; rfl, rfl⟩)
          | (simp [intOf])
    · have hb1 : (b != 0) = true := by simpa using hb
      go_enter Tryd.func71, Tryd.ntmps71
      go_wp2_with fail
      go_loopw [8] (fun s8 wr => (s8 = .int .i64 (0) ∨ s8 = .int .i64 (1)) ∧ wr = w) (fun s8 _ => 2 - (intOf s8).toNat)
      case atStart => exact ⟨.inl rfl, rfl⟩
      case round =>
        obtain ⟨rfl | rfl, rfl⟩ := hrel
        all_goals go_wp2_with fail
        all_goals first
          | (go_ret; exact ⟨by rw [← HZ.out]; rfl, rfl⟩)
          | (simp [intOf])
  · have ha1 : (a != 0) = true := by simpa using ha
    have HZ : Hid (a = r) := Lib.hid (by rw [← HR.out]; simp [ha])
    go_enter Tryd.func71, Tryd.ntmps71
    go_wp2_with fail
    go_loopw [8] (fun s8 wr => s8 = .int .i64 (0) ∧ wr = w) (fun s8 _ => 2 - (intOf s8).toNat)
    case atStart => exact ⟨rfl, rfl⟩
    case round =>
      obtain ⟨rfl, rfl⟩ := hrel
      go_wp2_with fail
      all_goals (go_ret; exact ⟨by rw [← HZ.out]; rfl, rfl⟩)

/-! ### The closure -/
theorem hold_and {a b : Prop} (h : a) (k : a → b) : a ∧ b := ⟨h, k h⟩
/-- Only draws, and blocks of its own. -/
def Gr (W w : World) : Prop := ∃ q os', w = grow (W.drewN q) os'
theorem Gr.refl (W : World) : Gr W W := ⟨0, #[], by simp [World.drewN]⟩
theorem Gr.drew {W w : World} (h : Gr W w) : Gr W w.drew := by
  obtain ⟨q, os, rfl⟩ := h
  exact ⟨q + 1, os, rfl⟩
theorem Gr.alloc {W w : World} (h : Gr W w) (o : Obj) : Gr W (w.alloc o) := by
  obtain ⟨q, os, rfl⟩ := h
  exact ⟨q, os ++ #[o], by rw [alloc_eq_grow, grow_grow]⟩
theorem Gr.trans {a b c : World} (h : Gr a b) (k : Gr b c) : Gr a c := by
  obtain ⟨q, os, rfl⟩ := h
  obtain ⟨q2, os2, rfl⟩ := k
  exact ⟨q + q2, os ++ os2, by rw [← grow_grow]; simp [World.drewN, grow, Nat.add_assoc]⟩
theorem Gr.below {W w : World} (h : Gr W w) : Below W.heap.size W w := by
  obtain ⟨q, os, rfl⟩ := h
  refine ⟨rfl, rfl, rfl, by simp [grow, World.drewN], fun k hk => ?_⟩
  rw [heap_grow_old _ _ (by simpa [World.drewN] using hk)]
  rfl
theorem wpH_startG {P : Program} {id : Nat} {ops : Array Oper} {Q : Exit → Act → World → Prop} {a : Act} {w : World} (hm : P.follows .mixedOrders = true)
    (h : Gr w w.drew → wpAnyH P .any ops Q (Gr w) ops.size (Array.replicate ops.size false) a w.drew) : (Code.region id ops true).wp P Q a w :=
  wp_region_held_drew hm (Gr.refl _).drew h

/-- Signatures held against one another. -/
def cmpS (x y : Sg) : Int := if cmpB x.1 y.1 ≠ 0 then cmpB x.1 y.1 else cmpB x.2.1 y.2.1
def encS (x : Sg) : List Value := [.string ⟨List.toArray (x.1)⟩, .string ⟨List.toArray (x.2.1)⟩, .bool x.2.2]
set_option maxRecDepth 100000 in
set_option maxHeartbeats 1000000 in
theorem closure_any (x y : Sg) (w : World) : Calls Tryd.prog 70 #[.agg #[.string ⟨List.toArray (x.1)⟩, .string ⟨List.toArray (x.2.1)⟩, .bool x.2.2], .agg #[.string ⟨List.toArray (y.1)⟩, .string ⟨List.toArray (y.2.1)⟩, .bool y.2.2]] w fun e w' => e = .returned (.int .i64 (cmpS x y)) ∧ ∃ q os', w' = grow (w.drewN q) os' := by
  obtain ⟨x1, x2, x3⟩ := x
  obtain ⟨y1, y2, y3⟩ := y
  have B0 : Blk ((w.alloc (.cells #[.string ⟨List.toArray (x1)⟩, .string ⟨List.toArray (x2)⟩, .bool x3] 95)).alloc (.cells #[.string ⟨List.toArray (y1)⟩, .string ⟨List.toArray (y2)⟩, .bool y3] 95)) w.heap.size #[.string ⟨List.toArray (x1)⟩, .string ⟨List.toArray (x2)⟩, .bool x3] := (Blk.new _ _ _).alloc _
  have B1 : Blk ((w.alloc (.cells #[.string ⟨List.toArray (x1)⟩, .string ⟨List.toArray (x2)⟩, .bool x3] 95)).alloc (.cells #[.string ⟨List.toArray (y1)⟩, .string ⟨List.toArray (y2)⟩, .bool y3] 95)) (w.heap.size + 1) #[.string ⟨List.toArray (y1)⟩, .string ⟨List.toArray (y2)⟩, .bool y3] := Blk.new' (by simp)
  have HG : Gr w ((w.alloc (.cells #[.string ⟨List.toArray (x1)⟩, .string ⟨List.toArray (x2)⟩, .bool x3] 95)).alloc (.cells #[.string ⟨List.toArray (y1)⟩, .string ⟨List.toArray (y2)⟩, .bool y3] 95)) := ((Gr.refl w).alloc _).alloc _
  unfold cmpS
  simp only
  have hor := or_any (cmpB x1 y1) (cmpB x2 y2)
  generalize (if cmpB x1 y1 ≠ 0 then cmpB x1 y1 else cmpB x2 y2) = r at *
  have hc1 := compare_any x1 y1
  have hc2 := compare_any x2 y2
  generalize cmpB x1 y1 = r1 at *
  generalize cmpB x2 y2 = r2 at *
  go_enter Tryd.func70, Tryd.ntmps70
  go_wp2_with fail
  have hbig : ∀ w', Gr ((w.alloc (.cells #[.string ⟨List.toArray (x1)⟩, .string ⟨List.toArray (x2)⟩, .bool x3] 95)).alloc (.cells #[.string ⟨List.toArray (y1)⟩, .string ⟨List.toArray (y2)⟩, .bool y3] 95)) w' → Below _ _ w' := fun w' h => h.below
  refine wpH_startG (by kernel_rfl) (fun hS => ?_)
  (refine wpH_pure 0 ?_ (oi := { dst := some 5, op := Op.fieldAddr 95 (Operand.tmp 2) 0, type := 0, pos := "oracle.go:62", after := #[], guard := none }) rfl (by kernel_rfl) (by kernel_rfl) (by kernel_rfl) (by rfl) hS (fun _ _ _ h => h) ?_ ?_; rotate_left; focus (intro w; go_simp; try with_reducible rfl))
  try simp only [Act.put, List.setIfInBounds_toArray, List.set_cons_zero, List.set_cons_succ]
  refine wpH_load 1 (.string ⟨List.toArray (x1)⟩) (oi := { dst := some 6, op := Op.load 9 (Operand.tmp 5), type := 9, pos := "oracle.go:62", after := #[{ on := 0, ground := Ground.data }], guard := none }) rfl (by kernel_rfl) (by kernel_rfl) (by kernel_rfl) (by rfl) hS (fun _ _ _ h => h) (fun w hb => (by have c := (B0.keep hb.below).cell 0; go_simp; try rfl)) ?_
  try simp only [Act.put, List.setIfInBounds_toArray, List.set_cons_zero, List.set_cons_succ]
  (refine wpH_pure 2 ?_ (oi := { dst := some 7, op := Op.fieldAddr 95 (Operand.tmp 3) 0, type := 0, pos := "oracle.go:62", after := #[], guard := none }) rfl (by kernel_rfl) (by kernel_rfl) (by kernel_rfl) (by rfl) hS (fun _ _ _ h => h) ?_ ?_; rotate_left; focus (intro w; go_simp; try with_reducible rfl))
  try simp only [Act.put, List.setIfInBounds_toArray, List.set_cons_zero, List.set_cons_succ]
  refine wpH_load 3 (.string ⟨List.toArray (y1)⟩) (oi := { dst := some 8, op := Op.load 9 (Operand.tmp 7), type := 9, pos := "oracle.go:62", after := #[{ on := 2, ground := Ground.data }], guard := none }) rfl (by kernel_rfl) (by kernel_rfl) (by kernel_rfl) (by rfl) hS (fun _ _ _ h => h) (fun w hb => (by have c := (B1.keep hb.below).cell 0; go_simp; try rfl)) ?_
  try simp only [Act.put, List.setIfInBounds_toArray, List.set_cons_zero, List.set_cons_succ]
  (refine wpH_pure 5 ?_ (oi := { dst := some 10, op := Op.fieldAddr 95 (Operand.tmp 2) 1, type := 0, pos := "oracle.go:62", after := #[], guard := none }) rfl (by kernel_rfl) (by kernel_rfl) (by kernel_rfl) (by rfl) hS (fun _ _ _ h => h) ?_ ?_; rotate_left; focus (intro w; go_simp; try with_reducible rfl))
  try simp only [Act.put, List.setIfInBounds_toArray, List.set_cons_zero, List.set_cons_succ]
  refine wpH_load 6 (.string ⟨List.toArray (x2)⟩) (oi := { dst := some 11, op := Op.load 9 (Operand.tmp 10), type := 9, pos := "oracle.go:62", after := #[{ on := 5, ground := Ground.data }], guard := none }) rfl (by kernel_rfl) (by kernel_rfl) (by kernel_rfl) (by rfl) hS (fun _ _ _ h => h) (fun w hb => (by have c := (B0.keep hb.below).cell 1; go_simp; try rfl)) ?_
  try simp only [Act.put, List.setIfInBounds_toArray, List.set_cons_zero, List.set_cons_succ]
  (refine wpH_pure 7 ?_ (oi := { dst := some 12, op := Op.fieldAddr 95 (Operand.tmp 3) 1, type := 0, pos := "oracle.go:62", after := #[], guard := none }) rfl (by kernel_rfl) (by kernel_rfl) (by kernel_rfl) (by rfl) hS (fun _ _ _ h => h) ?_ ?_; rotate_left; focus (intro w; go_simp; try with_reducible rfl))
  try simp only [Act.put, List.setIfInBounds_toArray, List.set_cons_zero, List.set_cons_succ]
  refine wpH_load 8 (.string ⟨List.toArray (y2)⟩) (oi := { dst := some 13, op := Op.load 9 (Operand.tmp 12), type := 9, pos := "oracle.go:62", after := #[{ on := 7, ground := Ground.data }], guard := none }) rfl (by kernel_rfl) (by kernel_rfl) (by kernel_rfl) (by rfl) hS (fun _ _ _ h => h) (fun w hb => (by have c := (B1.keep hb.below).cell 1; go_simp; try rfl)) ?_
  try simp only [Act.put, List.setIfInBounds_toArray, List.set_cons_zero, List.set_cons_succ]
  refine wpH_call 4 (oi := { dst := some 9, op := Op.call { callee := Callee.value (Operand.func 72), args := #[Operand.tmp 6, Operand.tmp 8], argTypes := #[9, 9] }, type := 3, pos := "oracle.go:62", after := #[{ on := 1, ground := Ground.data }, { on := 3, ground := Ground.data }], guard := none }) rfl (by kernel_rfl) (by rfl) (hc1 _) ?_ ?_
  · (go_simp; try rfl)
  rintro e w' ⟨rfl, rfl⟩
  refine ⟨_, rfl, hS, ?_⟩
  try simp only [Act.put, List.setIfInBounds_toArray, List.set_cons_zero, List.set_cons_succ]
  refine wpH_call 9 (oi := { dst := some 14, op := Op.call { callee := Callee.value (Operand.func 72), args := #[Operand.tmp 11, Operand.tmp 13], argTypes := #[9, 9] }, type := 3, pos := "oracle.go:62", after := #[{ on := 6, ground := Ground.data }, { on := 8, ground := Ground.data }, { on := 4, ground := Ground.chain }], guard := none }) rfl (by kernel_rfl) (by rfl) (hc2 _) ?_ ?_
  · (go_simp; try rfl)
  rintro e w' ⟨rfl, rfl⟩
  refine ⟨_, rfl, hS, ?_⟩
  try simp only [Act.put, List.setIfInBounds_toArray, List.set_cons_zero, List.set_cons_succ]
  refine wpH_op 10 (oi := { dst := some 15, op := Op.buildSlice 68 2 #[(0, Operand.tmp 9), (1, Operand.tmp 14)], type := 68, pos := "oracle.go:62", after := #[{ on := 4, ground := Ground.data }, { on := 9, ground := Ground.data }], guard := none }) rfl (by kernel_rfl) (by rfl) ?_
  unfold Oper.wp; go_simp
  refine hold_and ((Gr.refl _).alloc _).drew (fun hS => ?_)
  try simp only [Act.put, List.setIfInBounds_toArray, List.set_cons_zero, List.set_cons_succ]
  refine wpH_call 11 (oi := { dst := some 16, op := Op.call { callee := Callee.value (Operand.func 71), args := #[Operand.tmp 15], argTypes := #[68] }, type := 3, pos := "oracle.go:62", after := #[{ on := 10, ground := Ground.data }, { on := 9, ground := Ground.chain }], guard := none }) rfl (by kernel_rfl) (by rfl) (hor _ _ (Blk.new _ _ _).drew) ?_ ?_
  · (go_simp; try rfl)
  rintro e w' ⟨rfl, rfl⟩
  refine ⟨_, rfl, hS, ?_⟩
  try simp only [Act.put, List.setIfInBounds_toArray, List.set_cons_zero, List.set_cons_succ]
  (refine wpH_pure 12 ?_ (oi := { dst := some 4, op := Op.assign (Operand.tmp 16), type := 3, pos := "oracle.go:62", after := #[{ on := 11, ground := Ground.data }, { on := 11, ground := Ground.chain }, { on := 0, ground := Ground.phase }, { on := 1, ground := Ground.phase }, { on := 2, ground := Ground.phase }, { on := 3, ground := Ground.phase }, { on := 4, ground := Ground.phase }, { on := 5, ground := Ground.phase }, { on := 6, ground := Ground.phase }, { on := 7, ground := Ground.phase }, { on := 8, ground := Ground.phase }, { on := 9, ground := Ground.phase }, { on := 10, ground := Ground.phase }, { on := 11, ground := Ground.phase }], guard := none }) rfl (by kernel_rfl) (by kernel_rfl) (by kernel_rfl) (by rfl) hS (fun _ _ _ h => h) ?_ ?_; rotate_left; focus (intro w; go_simp; try with_reducible rfl))
  try simp only [Act.put, List.setIfInBounds_toArray, List.set_cons_zero, List.set_cons_succ]
  refine wpAnyH_done (by kernel_rfl) ?_ _
  go_wp2_with fail
  go_ret
  exact ⟨rfl, HG.trans hS⟩
end Go.Proofs.YtbnjhfkmdejeaaaDoor

/- All signatures, in order: slices.Clone and slices.SortFunc at signatures; the table's All. -/
set_option linter.unusedSimpArgs false
set_option linter.unusedVariables false
namespace Go.Proofs.YtbnjhfkmdejeaaaDoor
open Go.RowKit Go.Sort Go.Lib Go.Shelf Pl

/-! ### The order -/
theorem tri (x y : Bs) : x < y ∨ x = y ∨ y < x := by
  rcases Classical.em (x < y) with h | h
  · exact .inl h
  · rcases Classical.em (y < x) with h2 | h2
    · exact .inr (.inr h2)
    · exact .inr (.inl (List.le_antisymm (List.not_lt.1 h2) (List.not_lt.1 h)))
theorem cmpB_neg (x y : Bs) : cmpB x y < 0 ↔ x < y := by
  unfold cmpB
  rw [less_lt0]
  by_cases h : x < y
  · simp [h]
  · simp only [h, decide_false, Bool.false_eq_true, if_false, iff_false]
    split <;> decide
theorem cmpB_zero (x y : Bs) : cmpB x y = 0 ↔ x = y := by
  unfold cmpB
  rw [less_lt0]
  by_cases h : x < y
  · simp only [h, decide_true, if_true]
    exact ⟨fun e => absurd e (by decide), fun e => by subst e; exact absurd h (List.lt_irrefl _)⟩
  · simp only [h, decide_false, Bool.false_eq_true, if_false]
    cases h2 : leS x y
    · rw [leS_false] at h2
      simp only [Bool.false_eq_true, if_false]
      exact ⟨fun e => absurd e (by decide), fun e => by subst e; exact absurd h2 (List.lt_irrefl _)⟩
    · simp only [if_true, true_iff]
      rcases tri x y with h3 | h3 | h3
      · exact absurd h3 h
      · exact h3
      · rw [(leS_false x y).2 h3] at h2; cases h2
def ltS (x y : Sg) : Prop := x.1 < y.1 ∨ x.1 = y.1 ∧ x.2.1 < y.2.1
theorem ltS_iff (x y : Sg) : ltOf cmpS x y = true ↔ ltS x y := by
  unfold ltOf cmpS ltS
  rw [decide_eq_true_iff]
  by_cases h : cmpB x.1 y.1 = 0
  · have e := (cmpB_zero x.1 y.1).1 h
    rw [if_neg (by simp [h]), cmpB_neg]
    constructor
    · exact fun h2 => .inr ⟨e, h2⟩
    · rintro (h2 | h2)
      · rw [e] at h2; exact absurd h2 (List.lt_irrefl _)
      · exact h2.2
  · rw [if_pos h, cmpB_neg]
    constructor
    · exact .inl
    · rintro (h2 | h2)
      · exact h2
      · exact absurd ((cmpB_zero x.1 y.1).2 h2.1) h
theorem ltS_false (x y : Sg) : ltOf cmpS x y = false ↔ ¬ ltS x y := by
  rw [← ltS_iff]; simp
theorem swoS : SWO (ltOf cmpS) where
  irrefl x := by
    rw [ltS_false]
    rintro (h | h)
    · exact List.lt_irrefl _ h
    · exact List.lt_irrefl _ h.2
  trans x y z h1 h2 := by
    rw [ltS_iff] at *
    rcases h1 with h1 | ⟨h1, h3⟩ <;> rcases h2 with h2 | ⟨h2, h4⟩
    · exact .inl (List.lt_trans h1 h2)
    · exact .inl (by rw [← h2]; exact h1)
    · exact .inl (by rw [h1]; exact h2)
    · exact .inr ⟨h1.trans h2, List.lt_trans h3 h4⟩
  ntrans x y z h1 h2 := by
    rw [ltS_false] at *
    intro h
    rcases tri x.1 y.1 with c | c | c
    · exact h1 (.inl c)
    · rcases h with h | ⟨h, h3⟩
      · exact h2 (.inl (by rw [← c]; exact h))
      · rcases tri x.2.1 y.2.1 with d | d | d
        · exact h1 (.inr ⟨c, d⟩)
        · exact h2 (.inr ⟨c ▸ h, d ▸ h3⟩)
        · exact h2 (.inr ⟨c ▸ h, List.lt_trans d h3⟩)
    · rcases h with h | ⟨h, _⟩
      · exact h2 (.inl (List.lt_trans c h))
      · exact h2 (.inl (h ▸ c))
/-- No later one is below an earlier one. -/
def SortedS (M : List Sg) : Prop := ∀ i j, i < j → j < M.length → ¬ ltS (M.getD j sg0') (M.getD i sg0')

/-! ### The rows -/
theorem gv_enc (L : List Sg) (j : Nat) (hj : j < L.length * 3) : (gv L)[j]? = some ((encS (L.getD (j / 3) sg0'))[j % 3]!) := by
  have hi : j / 3 < L.length := by omega
  obtain ⟨h0, h1, h2⟩ := gv_at L (j / 3) hi
  have hm : j % 3 = 0 ∨ j % 3 = 1 ∨ j % 3 = 2 := by omega
  rcases hm with hm | hm | hm
  · rw [hm, show j = j / 3 * 3 from by omega, h0]
    rw [show j / 3 * 3 / 3 = j / 3 from by omega]
    rfl
  · rw [hm, show j = j / 3 * 3 + 1 from by omega, h1]
    rw [show (j / 3 * 3 + 1) / 3 = j / 3 from by omega]
    rfl
  · rw [hm, show j = j / 3 * 3 + 2 from by omega, h2]
    rw [show (j / 3 * 3 + 2) / 3 = j / 3 from by omega]
    rfl
theorem getB (L : List Sg) (i : Nat) (hi : i < L.length) : L.toArray[i]! = L.getD i sg0' := by
  rw [getElem!_pos _ i (by simpa using hi), List.getD_eq_getElem?_getD, List.getElem?_eq_getElem hi]
  rfl
theorem flat_at (L : List Sg) (j : Nat) (hj : j < L.length * 3) : (flatK encS 3 L.toArray)[j]! = (encS (L.getD (j / 3) sg0'))[j % 3]! := by
  rw [get_flatK _ _ _ _ (by simpa using hj), getB L (j / 3) (by omega)]
theorem flat_list (L : List Sg) : (flatK encS 3 L.toArray).toList = gv L := by
  apply List.ext_getElem?
  intro j
  by_cases hj : j < L.length * 3
  · rw [gv_enc L j hj, ← flat_at L j hj, Array.getElem?_toList, getElem!_pos _ j (by simpa using hj)]
    exact Array.getElem?_eq_getElem _
  · rw [List.getElem?_eq_none (by simp; omega), List.getElem?_eq_none (by rw [gv_len]; omega)]
theorem GRow.holds {w : World} {base g n cap : Nat} {L : List Sg} (h : GRow w base (.slice (some ⟨g, 0, none⟩) n cap) L) : HoldsK encS 3 w g 0 L.toArray ∧ g < w.heap.size := by
  rcases h.2 with ⟨h0, _⟩ | ⟨g', cap', cur, hv, q1, q2, q3, q4, q5, q6⟩
  · cases h0
  · injection hv with e1 _ e3
    injection e1 with e1
    injection e1 with e1 _ _
    subst e1 e3
    refine ⟨fun j hj => ?_, (Array.getElem?_eq_some_iff.1 q2).1⟩
    have hj' : j < L.length * 3 := by simpa using hj
    refine ⟨?_, by simp [World.frozen?, q2]⟩
    rw [flat_at L j hj']
    have h1 := gv_enc L j hj'
    rw [← q6, List.getElem?_take_of_lt hj'] at h1
    simp only [World.cell?, q2, Nat.zero_add]
    simp only [Option.isSome_none, Bool.false_eq_true, if_false]
    rw [← Array.getElem?_toList, h1]
    rfl
theorem heap_sortedK {w : World} {g n : Nat} {os : Array Obj} {cur : Array Value} {e : TypeId} {fr : Nat × Nat} (d : Array Sg) (hb : w.heap[g]? = some (.cells cur e fr)) :
    (sortWorldK encS 3 w g 0 n d os).heap[g]? = some (.cells (putCells id 0 (flatK encS 3 d) cur) e fr) := by
  have hg : g < w.heap.size := (Array.getElem?_eq_some_iff.1 hb).1
  unfold sortWorldK putRowK
  rw [heap_grow_old _ _ (by simpa using hg)]
  simp [putRow, mapBlock, Sort.ahead, Array.getElem?_modify, hb, onCells]
theorem grownBy_sortedK {w : World} {g n : Nat} {os : Array Obj} (d : Array Sg) : w.grownBy (sortWorldK encS 3 w g 0 n d os) (some g) := by
  refine ⟨rfl, rfl, rfl, by simp [sortWorldK, putRowK], fun k hk hne => ?_⟩
  unfold sortWorldK putRowK
  rw [heap_grow_old _ _ (by simpa using hk)]
  have : g ≠ k := fun e => hne (by rw [e])
  simp [putRow, mapBlock, Sort.ahead, Array.getElem?_modify, this]
theorem take_putCellsV (cur F : Array Value) (h : F.size ≤ cur.size) : (putCells id 0 F cur).toList.take F.size = F.toList := by
  apply List.ext_getElem?
  intro j
  by_cases hj : j < F.size
  · rw [List.getElem?_take_of_lt hj, Array.getElem?_toList]
    simp [putCells, hj, show j < cur.size by omega]
  · rw [List.getElem?_take_eq_none (by omega), List.getElem?_eq_none (by simp; omega)]
theorem GRow.sorted {w : World} {base g m cap n : Nat} {os : Array Obj} {L M : List Sg} (h : GRow w base (.slice (some ⟨g, 0, none⟩) m cap) L) (hl : M.length = L.length) : GRow (sortWorldK encS 3 w g 0 n M.toArray os) base (.slice (some ⟨g, 0, none⟩) m cap) M := by
  rcases h.2 with ⟨h0, _⟩ | ⟨g', cap', cur, hv, q1, q2, q3, q4, q5, q6⟩
  · cases h0
  · injection hv with e1 e2 e3
    injection e1 with e1
    injection e1 with e1 _ _
    subst e1 e2 e3
    refine ⟨by rw [gv_len], .inr ⟨g, cap, _, by rw [hl], q1, heap_sortedK _ q2, by rw [hl]; exact q3, q4, by simpa [putCells] using q5, ?_⟩⟩
    rw [← flat_list M]
    have : M.length * 3 = (flatK encS 3 M.toArray).size := by simp
    rw [this]
    exact take_putCellsV _ _ (by simp; omega)

set_option maxHeartbeats 1000000 in
theorem clone_row (base : Nat) (v : Value) (L : List Sg) (w : World) (h : GRow w base v L) (hL : L.length ≤ 1000000) :
    Calls Tryd.prog 68 #[v] w fun e w' => ∃ v', e = .returned v' ∧ GRow w' w.heap.size v' L ∧ Below w.heap.size w w' := by
  rcases h.cells with ⟨rfl, rfl⟩ | ⟨g, cap, rfl, h1, h2, h3, h4, h5, h6⟩
  · refine (AnyE.slices_Clone_nil laysClone 0 0 w).mono ?_
    rintro e w' ⟨rfl, rfl⟩
    exact ⟨_, rfl, GRow.nil _ _, Below.refl _ _⟩
  · obtain ⟨i0, hi, hz0, hz1, hz2⟩ := info_parts infoG
    have hc : ∀ j u, (gv L)[j]? = some u → w.cell? ⟨g, 0 + j, none⟩ = some u := fun j u hj => by
      have hadd : (⟨g, 0, none⟩ : Addr).add j = ⟨g, 0 + j, none⟩ := by unfold Addr.add; split <;> simp_all
      rw [← hadd]
      exact gsrc_news h5 j u hj
    refine (AnyE.slices_Clone laysClone i0 _ 3 40 hi hz0 hz1 hz2 rfl (by decide) Tryd.sizeOf95 g 0 L.length cap (gv L) w (gv_len L) (by unfold maxLen; omega) (by omega) hc (gone L)).mono ?_
    rintro e w' ⟨v', rfl, hr, _, hb⟩
    exact ⟨v', rfl, hr, hb⟩

theorem perm_of_permIn {L : List Sg} {d' : Array Sg} (h : PermIn 0 L.toArray.size L.toArray d') : d'.toList.Perm L := by
  obtain ⟨h1, _, h3⟩ := h
  have e1 : d'.extract 0 L.toArray.size = d' := by rw [← h1]; simp
  rw [e1] at h3
  simpa using h3
set_option maxHeartbeats 1000000 in
theorem sortf_row (base : Nat) (v : Value) (L : List Sg) (w : World) (hb : base ≤ w.heap.size) (h : GRow w base v L) (hL : L.length ≤ 1000000) :
    Calls Tryd.prog 69 #[v, .func (.func 70) #[] #[]] w fun e w' => e = .returned (.tuple #[]) ∧ ∃ M, GRow w' base v M ∧ M.Perm L ∧ SortedS M ∧ Below base w w' := by
  rcases h.cells with ⟨rfl, rfl⟩ | ⟨g, cap, rfl, h1, h2, h3, h4, h5, h6⟩
  · refine (AnyF.slices_SortFunc_none laysSortFunc none 0 _ w).mono ?_
    rintro e w' ⟨rfl, rfl⟩
    exact ⟨rfl, [], GRow.nil _ _, List.Perm.refl _, fun i j hij hj => by simp at hj, Below.refl _ _⟩
  · have eg : ∀ args w, (callFunc 70 args).run Tryd.prog w = .ok (.enter 70 args) w := enters_of Tryd.func70 (by kernel_rfl) rfl
    have hcmp : CmpLays Tryd.prog 70 #[] encS 3 cmpS g 0 L.toArray.size w := fun _ _ _ _ x y => closure_any x y _
    obtain ⟨hH, hg⟩ := h.holds
    have hcon := AnyQ.slices_SortFunc laysSortFunc 3 Tryd.isAgg95 Tryd.sizeOf95 encS (fun _ => rfl) (fun x v hv => by simp [encS] at hv; rcases hv with rfl | rfl | rfl <;> rfl) cmpS swoS 70 #[] g 0 cap L.toArray w eg hcmp hH hg (by simp; omega)
    refine Calls.mono hcon ?_
    rintro e w' ⟨rfl, d', n, os, hp, hs, rfl⟩
    have hp' := perm_of_permIn hp
    have hlen : d'.toList.length = L.length := hp'.length_eq
    have hd : d' = d'.toList.toArray := by simp
    refine ⟨rfl, d'.toList, ?_, hp', ?_, ?_⟩
    · have := GRow.sorted (n := n) (os := os) h hlen
      rw [← hd] at this
      exact this
    · intro i j hij hj
      have hj' : j < d'.size := by simpa using hj
      have := hs i j (Nat.zero_le _) hij (by simp at hlen ⊢; omega)
      rw [hd, getB _ j hj, getB _ i (by omega)] at this
      exact (ltS_false _ _).1 this
    · exact grown_below (grownBy_sortedK _) hb (fun k hk => by cases hk; exact h1)

set_option maxHeartbeats 1000000 in
theorem oall_any (base p : Nat) (L : List Sg) (hL : L.length ≤ 1000000) (w : World) (hT : Tab w base p L) :
    Calls Tryd.prog 42 #[.pointer (some ⟨p, 0, none⟩)] w fun e w' => ∃ v M, e = .returned v ∧ GRow w' w.heap.size v M ∧ M.Perm L ∧ SortedS M ∧ Below w.heap.size w w' := by
  obtain ⟨b, sv, h1, h2, B, h4, h5, h6⟩ := hT
  obtain ⟨b1, b2, b3⟩ := id B
  have hcl := clone_row _ _ L w h5 hL
  clear h4
  go_enter Tryd.func42, Tryd.ntmps42
  go_wp2_with fail
  refine hcl.mono ?_
  rintro e w1 ⟨v1, rfl, hr1, hb1⟩
  have hso := sortf_row _ v1 L w1 hb1.size hr1 hL
  go_wp2_with fail
  refine hso.mono ?_
  rintro e w2 ⟨rfl, M, hr2, hp, hs, hb2⟩
  go_wp2_with fail
  go_ret
  exact ⟨v1, M, rfl, hr2, hp, hs, hb1.trans hb2⟩
end Go.Proofs.YtbnjhfkmdejeaaaDoor
