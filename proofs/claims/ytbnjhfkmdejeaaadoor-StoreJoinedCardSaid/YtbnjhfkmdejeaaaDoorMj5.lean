/- SumP, ReachP, Shelf5, Lend. -/
import Derived.Test.YtbnjhfkmdejeaaaDoorMg2
import Derived.Test.YtbnjhfkmdejeaaaDoorProg
import Derived.Shelf.SlicesE.Clone
import Derived.Test.YtbnjhfkmdejeaaaDoorMg11
import Derived.Test.YtbnjhfkmdejeaaaDoorMg3
import Derived.Deep.Upon
import Derived.Maps.AppendAt
import Derived.Test.YtbnjhfkmdejeaaaDoorMj4
set_option linter.unnecessarySimpa false

/- Layer 8, plain: the sums that a node names stand in its bytes. -/
set_option linter.unusedSimpArgs false
set_option linter.unusedVariables false
namespace Go.Proofs.YtbnjhfkmdejeaaaDoor
namespace Pl

theorem flat_at : ∀ (l : List Bs) (r : Bs), (∀ x ∈ l, x.length = 32) → 32 * l.length ≤ (l.flatten ++ r).length ∧ ∀ i, i < l.length → ((l.flatten ++ r).drop (32 * i)).take 32 = l.getD i []
  | [], r, _ => ⟨by simp, fun i hi => by simp at hi⟩
  | x :: l, r, h => by
    have hx := h x (by simp)
    obtain ⟨h1, h2⟩ := flat_at l r (fun y hy => h y (by simp [hy]))
    refine ⟨by simp at h1 ⊢; omega, fun i hi => ?_⟩
    rw [List.flatten_cons, List.append_assoc]
    match i with
    | 0 => rw [Nat.mul_zero, List.drop_zero, List.take_append_of_le_length (by omega), List.take_of_length_le (by omega)]; rfl
    | j + 1 =>
      rw [show 32 * (j + 1) = x.length + 32 * j from by omega, List.drop_append, List.drop_eq_nil_of_le (by omega), List.nil_append, Nat.add_sub_cancel_left]
      rw [h2 j (by simpa using hi)]
      rfl
theorem one_kid {kid : Nat → Bs} (h : oneKidX kid (kid 0) = true) (h32 : (kid 0).length = 32) : kidsF kid = [kid 0] := by
  simp only [oneKidX, sameL, decide_eq_true_eq] at h
  have hz : ∀ i, 1 ≤ i → i < 16 → kid i = [] := by
    intro i h1 hi
    have := congrArg (fun l => l[i]?) h
    simp only [kidL, List.getElem?_map, List.getElem?_range hi, Option.map_some] at this
    rw [show i = (i - 1) + 1 from by omega, List.getElem?_cons_succ, List.getElem?_replicate, if_pos (by omega)] at this
    rw [show i = (i - 1) + 1 from by omega]
    exact Option.some.inj this
  have hne : kid 0 ≠ [] := by intro e; rw [e] at h32; simp at h32
  have hto : ∀ n, 1 ≤ n → n ≤ 16 → kidsTo kid n = [kid 0] := by
    intro n
    induction n with
    | zero => intro h1; omega
    | succ n ih =>
      intro _ hn
      rw [kidsTo_succ]
      by_cases h0 : n = 0
      · subst h0
        rw [if_neg hne]; rfl
      · rw [ih (by omega) (by omega), hz n (by omega) (by omega), if_pos rfl, List.append_nil]
  exact hto 16 (by omega) (by omega)
theorem no_kid {kid : Nat → Bs} (h : noKids kid = true) : kidsF kid = [] := by
  simp only [noKids, sameL, decide_eq_true_eq] at h
  have hz : ∀ i, i < 16 → kid i = [] := by
    intro i hi
    have := congrArg (fun l => l[i]?) h
    simp only [kidL, List.getElem?_map, List.getElem?_range hi, Option.map_some] at this
    rw [List.getElem?_replicate, if_pos hi] at this
    exact Option.some.inj this
  have hto : ∀ n, n ≤ 16 → kidsTo kid n = [] := by
    intro n
    induction n with
    | zero => intro _; rfl
    | succ n ih => intro hn; rw [kidsTo_succ, ih (by omega), hz n (by omega), if_pos rfl, List.append_nil]
  exact hto 16 (by omega)
/-- What a node's sums are, in its bytes. -/
theorem sums_in (k : Int) (p v : Bs) (kid : Nat → Bs) (h : chk k p v kid = true) :
    (∀ i, i < (kidsF kid).length → ((kidsF kid).getD i []).length = 32) ∧
    ((k = 3 ∧ 3 + 32 * (kidsF kid).length ≤ (enc k p v kid).length ∧ ∀ i, i < (kidsF kid).length → ((enc k p v kid).drop (3 + 32 * i)).take 32 = (kidsF kid).getD i []) ∨
     (k ≠ 3 ∧ ((kidsF kid).length : Int) = k - 1 ∧ (0 < (kidsF kid).length → 32 ≤ (enc k p v kid).length) ∧ ∀ i, i < (kidsF kid).length → (enc k p v kid).drop ((enc k p v kid).length - 32) = (kidsF kid).getD i [])) := by
  have getD_mem : ∀ (l : List Bs) i, i < l.length → l.getD i [] ∈ l := by
    intro l i hi
    rw [List.getD_eq_getElem?_getD, List.getElem?_eq_getElem hi]
    exact List.getElem_mem hi
  unfold chk at h
  split at h
  · subst k
    simp at h
    have hk := no_kid h.1.1.1
    rw [hk]
    exact ⟨fun i hi => by simp at hi, .inr ⟨by decide, rfl, fun h => by simp at h, fun i hi => by simp at hi⟩⟩
  · split at h
    · subst k
      simp only [Bool.and_eq_true] at h
      have h32 : (kid 0).length = 32 := by simpa [all32] using h.1.1.2
      have hk := one_kid h.1.1.1 h32
      rw [hk]
      have he : enc 2 p v kid = (2 :: text (pack p false).1) ++ kid 0 := by simp [enc]
      refine ⟨fun i hi => ?_, .inr ⟨by decide, rfl, fun _ => by rw [he, List.length_append]; omega, fun i hi => ?_⟩⟩
      · obtain rfl : i = 0 := by simpa using hi
        exact h32
      · obtain rfl : i = 0 := by simpa using hi
        rw [he, List.length_append, h32, Nat.add_sub_cancel, List.drop_left]
        rfl
    · split at h
      · subst k
        simp only [Bool.and_eq_true] at h
        have ha : ∀ x ∈ kidsF kid, x.length = 32 := by simpa [all32] using h.1.1.2
        have he : enc 3 p v kid = [3, UInt8.ofNat (hiK kid), UInt8.ofNat (loK kid)] ++ ((kidsF kid).flatten ++ text v) := by simp [enc]
        obtain ⟨h1, h2⟩ := flat_at (kidsF kid) (text v) ha
        refine ⟨fun i hi => ha _ (getD_mem _ i hi), .inl ⟨rfl, ?_, fun i hi => ?_⟩⟩
        · rw [he, List.length_append]
          simp only [List.length_cons, List.length_nil]
          omega
        · rw [he, ← h2 i hi, Nat.add_comm 3]
          rfl
      · cases h

end Pl
end Go.Proofs.YtbnjhfkmdejeaaaDoor

/- Plain: what is reached from some sums. -/
set_option linter.unusedSimpArgs false
set_option linter.unusedVariables false
namespace Go.Proofs.YtbnjhfkmdejeaaaDoor
open Pl

/-- The kids of a sum's node. -/
def kidsT (T : List Ent) (k : Bs) : List Bs := if (nodeT T k).2 = 0 then kidsF (nodeT T k).1.kid else []
inductive Rch (T : List Ent) (S : List Bs) : Bs → Prop
  | start {s : Bs} : s ∈ S → s ∈ keysE T → Rch T S s
  | step {a s : Bs} : Rch T S a → s ∈ kidsT T a → s ∈ keysE T → Rch T S s
/-- What holds while one goes. -/
structure RInv (T : List Ent) (S I W : List Bs) : Prop where
  nd : I.Nodup
  keys : ∀ x ∈ I, x ∈ keysE T
  rch : ∀ x ∈ I, Rch T S x
  wait : ∀ x ∈ W, x ∈ S ∨ ∃ a ∈ I, x ∈ kidsT T a
  all : ∀ x ∈ S, x ∈ keysE T → x ∈ I ∨ x ∈ W
  kid : ∀ a ∈ I, ∀ x ∈ kidsT T a, x ∈ keysE T → x ∈ I ∨ x ∈ W
theorem RInv.start (T : List Ent) (S : List Bs) : RInv T S [] S :=
  ⟨List.nodup_nil, fun _ h => (by cases h), fun _ h => (by cases h), fun _ h => .inl h, fun _ h _ => .inr h, fun _ h => (by cases h)⟩
theorem RInv.skip {T : List Ent} {S I W : List Bs} {s : Bs} (h : RInv T S I (W ++ [s])) (hs : s ∉ keysE T ∨ s ∈ I) : RInv T S I W := by
  refine ⟨h.nd, h.keys, h.rch, fun x hx => h.wait x (by simp [hx]), fun x hx hk => ?_, fun a ha x hx hk => ?_⟩
  · rcases h.all x hx hk with h1 | h1
    · exact .inl h1
    · rcases List.mem_append.1 h1 with h1 | h1
      · exact .inr h1
      · rw [List.mem_singleton] at h1
        subst h1
        rcases hs with hs | hs
        · exact absurd hk hs
        · exact .inl hs
  · rcases h.kid a ha x hx hk with h1 | h1
    · exact .inl h1
    · rcases List.mem_append.1 h1 with h1 | h1
      · exact .inr h1
      · rw [List.mem_singleton] at h1
        subst h1
        rcases hs with hs | hs
        · exact absurd hk hs
        · exact .inl hs
theorem RInv.take {T : List Ent} {S I W : List Bs} {s : Bs} (h : RInv T S I (W ++ [s])) (hk : s ∈ keysE T) (hn : s ∉ I) : RInv T S (I ++ [s]) (W ++ kidsT T s) := by
  have hr : Rch T S s := by
    rcases h.wait s (by simp) with h1 | ⟨a, ha, h1⟩
    · exact .start h1 hk
    · exact .step (h.rch a ha) h1 hk
  have hmv : ∀ x, x ∈ I ∨ x ∈ W ++ [s] → x ∈ I ++ [s] ∨ x ∈ W ++ kidsT T s := by
    rintro x (hx | hx)
    · exact .inl (by simp [hx])
    · rcases List.mem_append.1 hx with hx | hx
      · exact .inr (by simp [hx])
      · exact .inl (by simp at hx; simp [hx])
  refine ⟨?_, fun x hx => ?_, fun x hx => ?_, fun x hx => ?_, fun x hx hxk => hmv x (h.all x hx hxk), fun a ha x hx hxk => ?_⟩
  · rw [List.nodup_append]
    exact ⟨h.nd, by simp, fun a ha b hb e => by simp at hb; subst hb e; exact hn ha⟩
  · rcases List.mem_append.1 hx with hx | hx
    · exact h.keys x hx
    · rw [List.mem_singleton] at hx; subst hx; exact hk
  · rcases List.mem_append.1 hx with hx | hx
    · exact h.rch x hx
    · rw [List.mem_singleton] at hx; subst hx; exact hr
  · rcases List.mem_append.1 hx with hx | hx
    · rcases h.wait x (by simp [hx]) with h1 | ⟨a, ha, h1⟩
      · exact .inl h1
      · exact .inr ⟨a, by simp [ha], h1⟩
    · exact .inr ⟨s, by simp, hx⟩
  · rcases List.mem_append.1 ha with ha | ha
    · exact hmv x (h.kid a ha x hx hxk)
    · rw [List.mem_singleton] at ha
      subst ha
      exact .inr (by simp [hx])
theorem RInv.done {T : List Ent} {S I : List Bs} (h : RInv T S I []) : ∀ s, s ∈ I ↔ Rch T S s := by
  intro s
  refine ⟨h.rch s, fun hr => ?_⟩
  induction hr with
  | start h1 h2 => rcases h.all _ h1 h2 with h3 | h3; exact h3; cases h3
  | step _ h1 h2 ih => rcases h.kid _ ih _ h1 h2 with h3 | h3; exact h3; cases h3
theorem RInv.len {T : List Ent} {S I W : List Bs} (h : RInv T S I W) : I.length ≤ T.length := by
  have := nodup_len I (keysE T) h.nd h.keys
  unfold keysE at this
  rwa [List.length_map] at this
theorem kids_le (T : List Ent) (k : Bs) : (kidsT T k).length ≤ 16 := by
  unfold kidsT
  split
  · exact kidsTo_len _ 16
  · simp
/-- A node's kids have 32 bytes. -/
theorem chk_32 {kind : Int} {path val : Bs} {kid : Nat → Bs} (h : chk kind path val kid = true) : ∀ x ∈ kidsF kid, x.length ≤ 32 := by
  unfold chk at h
  intro x hx
  split at h
  · simp only [Bool.and_eq_true] at h
    rw [no_kid h.1.1.1] at hx
    cases hx
  · split at h
    · simp only [Bool.and_eq_true] at h
      have h32 : (kid 0).length = 32 := by simpa [all32] using h.1.1.2
      rw [one_kid h.1.1.1 h32] at hx
      simp at hx
      subst hx
      omega
    · split at h
      · simp only [Bool.and_eq_true] at h
        have := h.1.1.2
        unfold all32 at this
        rw [List.all_eq_true] at this
        have := this x hx
        simp at this
        omega
      · cases h
theorem decEnd_chk (x : Nd × Bs × Int) (f : Bool) (h : (decEnd x f).2 = 0) : chk (decEnd x f).1.kind (decEnd x f).1.path (decEnd x f).1.val (decEnd x f).1.kid = true := by
  unfold decEnd at *
  split
  · rename_i hc
    exact hc.2.2
  · rename_i hc
    rw [if_neg hc] at h
    exact absurd h (by decide)
theorem dec_chk (s : Bs) (h : (dec s).2 = 0) : chk (dec s).1.kind (dec s).1.path (dec s).1.val (dec s).1.kid = true := by
  unfold dec at *
  split at h
  · exact absurd h (by decide)
  · split at h
    · split at h
      · simp only [*]
        exact decEnd_chk _ _ h
      · exact absurd h (by decide)
    · split at h
      · simp only [*]
        exact decEnd_chk _ _ h
      · simp only [*]
        exact decEnd_chk _ _ h
theorem kids_short (T : List Ent) (k : Bs) : ∀ x ∈ kidsT T k, x.length ≤ 32 := by
  intro x hx
  unfold kidsT at hx
  split at hx
  · rename_i h0
    by_cases hin : k ∈ keysE T
    · rw [nodeT_in hin] at h0 hx
      exact chk_32 (dec_chk _ h0) x hx
    · rw [nodeT_out hin] at h0
      exact absurd h0 (by decide)
  · cases hx
end Go.Proofs.YtbnjhfkmdejeaaaDoor

/- The laws of the library that the sorts lean on, at this program. -/
set_option linter.unusedVariables false
namespace Go.Proofs.YtbnjhfkmdejeaaaDoor
open Go.Shelf

def laysCloneS_ren : Go.Shelf.Ren := ⟨fun | 41 => 84 | n => n, fun | 22 => 26 | 23 => 9 | 4 => 4 | n => n, fun | n => n⟩
theorem laysCloneS : Go.Proofs.SlLaysE0.n41 Tryd.prog laysCloneS_ren := {
  mixed := by kernel_rfl
  f41 := ⟨Tryd.f84.name, by decide, Tryd.func84.trans (congrArg some (by kernel_rfl))⟩
  t4 := Tryd.underlying4
  a4 := Tryd.isAgg4
  z4 := Tryd.sizeOf4
  v4 := Tryd.zeroValue4
  t22 := Tryd.underlying26
  a22 := Tryd.isAgg26
  z22 := Tryd.sizeOf26
  v22 := Tryd.zeroValue26 }

end Go.Proofs.YtbnjhfkmdejeaaaDoor

/- Lists that are lent with a text behind; whole lists appended. -/
set_option linter.unusedSimpArgs false
set_option linter.unusedVariables false
namespace Go.Proofs.YtbnjhfkmdejeaaaDoor
open Go.RowKit Pl

section
variable {ops : Array Oper} {o : Oper} {rest : List Oper} {a : Act} {w : World} {Q : Exit → Act → World → Prop}
/-- append(v, x...) of texts, v own, x any. -/
theorem wpList_appSS (hgd : o.guard = none) (s x : Operand)
    (ho : o.op = .call { callee := .builtin .append, args := #[s, x], argTypes := #[26, 26] })
    (base : Nat) (v : Value) (l : List Bs) (hs : a.eval s = v) (hown : SRow w base v l)
    (u : Value) (news : List Bs) (hx : a.eval x = u) (hsrc : SS w u news)
    (hlen : l.length + news.length ≤ 8796093022208) (hbase : base ≤ w.heap.size)
    (h : ∀ v' w', SRow w' base v' (l ++ news) → Below base w w' → wpList Tryd.prog ops Q rest (a.put o.dst v') w') : wpList Tryd.prog ops Q (o :: rest) a w := by
  obtain ⟨au, cu, hu, h1, h2, h3⟩ := hsrc
  by_cases hn : news = []
  · subst hn
    obtain ⟨i0, hi, hz0, hz1, hz2⟩ := info_parts infoStr
    obtain ⟨va, vc, hv⟩ := hown.form
    have hle : l.length ≤ vc := by
      rcases hown.cells with ⟨e, e2⟩ | ⟨g, cap, e, _, _, h4, _⟩
      · subst e2; simp
      · rw [hv] at e; injection e with _ _ e; subst e; exact h4
    have hS : Src Tryd.prog i0.size 26 u 0 [] w := by
      subst hu
      cases au with
      | none => exact Src.ofNil w Tryd.underlying26 cu
      | some ad => exact Src.ofSlice w Tryd.underlying26 ad 0 cu [] (by simp) (fun j u h => by simp at h) (fun _ h => by cases h)
    have hr := run_append_nothing (P := Tryd.prog) w 26 26 o.type 9 i0 Tryd.underlying26 hi va l.length vc hle u hS
    refine wpList_plain hgd fun K hK => ?_
    unfold Oper.wp execOp
    simp only [ho, resolve, invoke, builtin, Sem.run_bind, Sem.run_pure, Result.andThen_ok, List.map_toArray, List.map_cons, List.map_nil, hs, hx, hv, hr]
    exact hK _ _ (h _ w (by rw [List.append_nil, ← hv]; exact hown) (Below.refl _ _))
  · obtain ⟨g, off, rfl, hg, hc⟩ := h3 hn
    exact wpList_appS hgd s x ho base v l hs hown g off news.length cu news (hx.trans hu) rfl hc hlen hbase h
/-- append(v, x...) of members. -/
theorem wpList_appMM (hgd : o.guard = none) (s x : Operand)
    (ho : o.op = .call { callee := .builtin .append, args := #[s, x], argTypes := #[22, 22] })
    (base : Nat) (v : Value) (l : List (Bs × Int)) (hs : a.eval s = v) (hown : MRow w base v l)
    (u : Value) (news : List (Bs × Int)) (hx : a.eval x = u) (hsrc : MS w u news)
    (hlen : l.length + news.length ≤ 1099511627000) (hbase : base ≤ w.heap.size)
    (h : ∀ v' w', MRow w' base v' (l ++ news) → Below base w w' → wpList Tryd.prog ops Q rest (a.put o.dst v') w') : wpList Tryd.prog ops Q (o :: rest) a w := by
  obtain ⟨au, cu, hu, h1, h2, h3⟩ := hsrc
  by_cases hn : news = []
  · subst hn
    obtain ⟨i0, hi, hz0, hz1, hz2⟩ := info_parts infoMem
    obtain ⟨va, vc, hv⟩ := hown.form
    have hle : l.length ≤ vc := by
      rcases hown.cells with ⟨e, e2⟩ | ⟨g, cap, e, _, _, h4, _⟩
      · subst e2; simp
      · rw [hv] at e; injection e with _ _ e; subst e; exact h4
    have hS : Src Tryd.prog i0.size 22 u 0 [] w := by
      subst hu
      cases au with
      | none => exact Src.ofNil w Tryd.underlying22 cu
      | some ad => exact Src.ofSlice w Tryd.underlying22 ad 0 cu [] (by simp) (fun j u h => by simp at h) (fun _ h => by cases h)
    have hr := run_append_nothing (P := Tryd.prog) w 22 22 o.type 77 i0 Tryd.underlying22 hi va l.length vc hle u hS
    refine wpList_plain hgd fun K hK => ?_
    unfold Oper.wp execOp
    simp only [ho, resolve, invoke, builtin, Sem.run_bind, Sem.run_pure, Result.andThen_ok, List.map_toArray, List.map_cons, List.map_nil, hs, hx, hv, hr]
    exact hK _ _ (h _ w (by rw [List.append_nil, ← hv]; exact hown) (Below.refl _ _))
  · obtain ⟨g, off, rfl, hg, hc⟩ := h3 hn
    exact wpList_appM hgd s x ho base v l hs hown g off news.length cu news (hx.trans hu) rfl hc hlen hbase h
end

def beh : Bs := [98, 101, 104, 105, 110, 100]
theorem SRow.lt {w : World} {b : Nat} {v : Value} {l : List Bs} (h : SRow w b v l) : ∀ k, v.ownBlock = some k → k < w.heap.size := by
  intro k hk
  rcases h.cells with ⟨rfl, _⟩ | ⟨g, cap, rfl, _, hg, _⟩
  · cases hk
  · cases hk; exact hg
theorem SRow.grown {w w' : World} {b : Nat} {row : Option Nat} {v : Value} {l : List Bs} (h : SRow w b v l) (hg : w.grownBy w' row) (hn : ∀ k, v.ownBlock = some k → row ≠ some k) : SRow w' b v l :=
  h.kept (fun k hk => hg.block k (h.lt k hk) (fun e => hn k hk e.symm))
section
variable {ops : Array Oper} {o : Oper} {rest : List Oper} {a : Act} {w : World} {Q : Exit → Act → World → Prop}
/-- append(v, x...): where the new slice lies, too. -/
theorem wpList_appAt (hgd : o.guard = none) (s x : Operand)
    (ho : o.op = .call { callee := .builtin .append, args := #[s, x], argTypes := #[26, 26] })
    (base : Nat) (v : Value) (l : List Bs) (hs : a.eval s = v) (hown : SRow w base v l)
    (u : Value) (news : List Bs) (hx : a.eval x = u) (hsrc : SS w u news)
    (hlen : l.length + news.length ≤ 8796093022208) (hbase : base ≤ w.heap.size)
    (h : ∀ v' w', SRow w' base v' (l ++ news) → w.grownBy w' v.ownBlock → (v'.ownBlock = v.ownBlock ∨ v'.ownBlock = some w.heap.size) → wpList Tryd.prog ops Q rest (a.put o.dst v') w') : wpList Tryd.prog ops Q (o :: rest) a w := by
  obtain ⟨au, cu, hu, h1, h2, h3⟩ := hsrc
  obtain ⟨i0, hi, hz0, hz1, hz2⟩ := info_parts infoStr
  by_cases hn : news = []
  · subst hn
    obtain ⟨va, vc, hv⟩ := hown.form
    have hle : l.length ≤ vc := by
      rcases hown.cells with ⟨e, e2⟩ | ⟨g, cap, e, _, _, h4, _⟩
      · subst e2; simp
      · rw [hv] at e; injection e with _ _ e; subst e; exact h4
    have hS : Src Tryd.prog i0.size 26 u 0 [] w := by
      subst hu
      cases au with
      | none => exact Src.ofNil w Tryd.underlying26 cu
      | some ad => exact Src.ofSlice w Tryd.underlying26 ad 0 cu [] (by simp) (fun j u h => by simp at h) (fun _ h => by cases h)
    have hr := run_append_nothing (P := Tryd.prog) w 26 26 o.type 9 i0 Tryd.underlying26 hi va l.length vc hle u hS
    refine wpList_plain hgd fun K hK => ?_
    unfold Oper.wp execOp
    simp only [ho, resolve, invoke, builtin, Sem.run_bind, Sem.run_pure, Result.andThen_ok, List.map_toArray, List.map_cons, List.map_nil, hs, hx, hv, hr]
    exact hK _ _ (h _ w (by rw [List.append_nil, ← hv]; exact hown) ⟨rfl, rfl, rfl, Nat.le_refl _, fun _ _ _ => rfl⟩ (.inl (by rw [hv])))
  · obtain ⟨g, off, rfl, hg, hc⟩ := h3 hn
    refine wpList_append_own_at w hgd s x 26 ho base 9 i0 (.string ⟨#[]⟩) 1 16 Tryd.underlying26 hi hz0 hz1 hz2 rfl (by decide) v l.length (sv l) hs hown ⟨g, off, none⟩ news.length cu (sv news) (hx.trans hu) (by rw [sv_len]; omega) (ssrc_news hc) (sone news)
      (by unfold maxLen; omega) (by omega) hbase (fun v' w' h2 h3 _ h5 => h v' w' ?_ h3 h5)
    unfold SRow
    rw [List.length_append, show sv (l ++ news) = sv l ++ sv news from by simp [sv]]
    exact h2
end
theorem SRow.snoc {w : World} {b : Nat} {v : Value} {l : List Bs} {x : Bs} (h : SRow w b v (l ++ [x])) : ∃ g cap, v = .slice (some ⟨g, 0, none⟩) (l.length + 1) cap ∧ l.length + 1 ≤ cap ∧ (l.length : Int) + 1 ≤ cap := by
  rcases h.cells with ⟨_, e⟩ | ⟨g, cap, e, _, _, h3, _⟩
  · simp at e
  · rw [List.length_append] at e h3
    exact ⟨g, cap, e, by simpa using h3, by simp at h3; omega⟩
/-- v is a list that was lent: it reads as l, and behind it stands a text. -/
def Lent (w : World) (base : Nat) (v : Value) (l : List Bs) : Prop :=
  ∃ g cap, v = .slice (some ⟨g, 0, none⟩) l.length cap ∧ SRow w base (.slice (some ⟨g, 0, none⟩) (l.length + 1) cap) (l ++ [beh])
theorem Lent.cells {w : World} {base : Nat} {v : Value} {l : List Bs} (h : Lent w base v l) :
    ∃ g cap, v = .slice (some ⟨g, 0, none⟩) l.length cap ∧ base ≤ g ∧ g < w.heap.size ∧ l.length + 1 ≤ cap ∧ cap ≤ maxLen ∧ (∀ i, i < l.length → w.cell? ⟨g, i, none⟩ = some (.string ⟨List.toArray (l.getD i [])⟩)) ∧ w.cell? ⟨g, l.length, none⟩ = some (.string ⟨List.toArray (beh)⟩) := by
  obtain ⟨g, cap, rfl, hr⟩ := h
  rcases hr.cells with ⟨e, _⟩ | ⟨g', cap', e, h1, h2, h3, h4, h5, _⟩
  · cases e
  · injection e with e1 _ e3
    injection e1 with e1
    injection e1 with e1 _ _
    subst e1 e3
    simp at h3 h5
    refine ⟨g, cap, rfl, h1, h2, h3, h4, fun i hi => ?_, ?_⟩
    · rw [h5 i (by omega), List.getElem?_append_left hi]
      rfl
    · rw [h5 l.length (by omega)]
      simp
theorem Lent.ss {w : World} {base : Nat} {v : Value} {l : List Bs} (h : Lent w base v l) : SS w v l := by
  obtain ⟨g, cap, rfl, h1, h2, h3, h4, h5, h6⟩ := h.cells
  exact SS.of (by omega) h4 h2 (fun i hi => by rw [Nat.zero_add]; exact h5 i hi)
theorem Lent.keep {W w : World} {base : Nat} {v : Value} {l : List Bs} (h : Lent W base v l) (hb : Below W.heap.size W w) : Lent w base v l := by
  obtain ⟨g, cap, e, hr⟩ := h
  exact ⟨g, cap, e, hr.keep hb⟩
theorem Lent.low {w : World} {b c : Nat} {v : Value} {l : List Bs} (h : Lent w b v l) (hc : c ≤ b) : Lent w c v l := by
  obtain ⟨g, cap, e, hr⟩ := h
  exact ⟨g, cap, e, hr.low hc⟩

set_option maxRecDepth 100000 in
set_option maxHeartbeats 400000 in
theorem lend_any (v : Value) (l : List Bs) (hl : l.length ≤ 1000000) (w : World) (hv : SS w v l) :
    Calls Tryd.prog 13 #[v] w fun e w' => ∃ u, e = .returned u ∧ Lent w' w.heap.size u l ∧ Below w.heap.size w w' := by
  have hf := hv.form
  obtain ⟨a, c, rfl⟩ := hf
  have HV := Lib.hid hv
  clear hv
  go_enter Tryd.func13, Tryd.ntmps13
  go_wp2_with (first
    | (at_builtin; refine wpList_appSS rfl (.tmp 4) (.tmp 5) rfl w.heap.size (.slice none 0 0) [] rfl (SRow.nil _ _) _ l rfl HV.out (by simp; omega) (Nat.le_refl _) ?_; rintro v1 w1 hS1 hb1; rw [List.nil_append] at hS1)
    | (at_builtin; refine wpList_appS rfl (.tmp 7) (.tmp 8) rfl w.heap.size _ l rfl (hS1.alloc _) w1.heap.size 0 1 1 [beh] rfl rfl (ssrc1 _ _ _) (by omega) (by simp; have := hb1.size; omega) ?_; rintro v2 w2 hS2 hb2; obtain ⟨g2, cap2, rfl, q3n, q3'⟩ := hS2.snoc)
    | fail)
  all_goals go_ret
  all_goals exact ⟨_, rfl, ⟨g2, cap2, rfl, hS2⟩, (Below.allocS hb1 (.cells #[.string ⟨List.toArray (beh)⟩] 9)).trans hb2⟩

set_option maxRecDepth 100000 in
set_option maxHeartbeats 400000 in
theorem kept_any (base : Nat) (u v : Value) (l : List Bs) (w : World) (hu : Lent w base u l) (hv : SS w v l) :
    Calls Tryd.prog 22 #[u, v] w fun e w' => e = .returned (.bool true) ∧ Below w.heap.size w w' := by
  obtain ⟨g, cap, rfl, h1, h2, h3, h4, h5, h6⟩ := hu.cells
  obtain ⟨b, d, rfl⟩ := hv.form
  have hsame := sametexts_self _ _ l w hu.ss hv
  have hq : (l.length : Int) + 1 ≤ (cap : Int) := by omega
  unfold maxLen at h4
  have q1 : IntKind.i64.wrap ((l.length : Int) + 1) = (l.length : Int) + 1 := IntWalk.i64_in _ (by omega)
  have HS := Lib.hid hsame
  clear hsame hu hv h5
  go_enter Tryd.func22, Tryd.ntmps22
  go_wp2_with fail
  refine HS.out.mono ?_
  rintro e w1 ⟨rfl, n, rfl⟩
  go_wp2_with fail
  all_goals (go_ret; exact ⟨rfl, below_drewN (Below.refl _ _) n⟩)
end Go.Proofs.YtbnjhfkmdejeaaaDoor
