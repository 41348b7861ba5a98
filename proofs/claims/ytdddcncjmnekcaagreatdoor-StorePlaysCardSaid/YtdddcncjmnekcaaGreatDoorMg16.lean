/- SumP, ReachP, Shelf5, Lend, Reached. -/
import Derived.Test.YtdddcncjmnekcaaGreatDoorProg
import Derived.Shelf.SlicesE.Clone
import Derived.Deep.Upon
import Derived.Maps.AppendAt
import Derived.Test.YtdddcncjmnekcaaGreatDoorMg1
import Derived.Test.YtdddcncjmnekcaaGreatDoorMg3
import Derived.Test.YtdddcncjmnekcaaGreatDoorMg9
import Derived.Test.YtdddcncjmnekcaaGreatDoorMg11
import Derived.Test.YtdddcncjmnekcaaGreatDoorMg15
set_option linter.unnecessarySimpa false

/- Layer 8, plain: the sums that a node names stand in its bytes. -/
set_option linter.unusedSimpArgs false
set_option linter.unusedVariables false
namespace Go.Proofs.YtdddcncjmnekcaaGreatDoor
namespace Pl

theorem flat_at : ∀ (l : List Bs) (r : Bs), (∀ x ∈ l, x.length = 32) → 32 * l.length ≤ (l.flatten ++ r).length ∧ ∀ i, i < l.length → ((l.flatten ++ r).drop (32 * i)).take 32 = l.getD i []
  | [], r, _ => ⟨by simp, fun i hi => by simp at hi⟩
  | x :: l, r, h => by
    have hx := h x (by simp)
    obtain ⟨h1, h2⟩ := flat_at l r (fun y hy => h y (by simp [hy]))
    refine ⟨by simp at h1 ⊢; omega, fun i hi => ?_⟩
    rw [List.flatten_cons, List.append_assoc]
    match i with
    | 0 => rw [Nat.mul_zero, List.drop_zero, List.take_append_of_le_length (by omega), List.take_of_length_le (by omega)]; rfl
    | j + 1 =>
      rw [show 32 * (j + 1) = x.length + 32 * j from by omega, List.drop_append, List.drop_eq_nil_of_le (by omega), List.nil_append, Nat.add_sub_cancel_left]
      rw [h2 j (by simpa using hi)]
      rfl
theorem one_kid {kid : Nat → Bs} (h : oneKidX kid (kid 0) = true) (h32 : (kid 0).length = 32) : kidsF kid = [kid 0] := by
  simp only [oneKidX, sameL, decide_eq_true_eq] at h
  have hz : ∀ i, 1 ≤ i → i < 16 → kid i = [] := by
    intro i h1 hi
    have := congrArg (fun l => l[i]?) h
    simp only [kidL, List.getElem?_map, List.getElem?_range hi, Option.map_some] at this
    rw [show i = (i - 1) + 1 from by omega, List.getElem?_cons_succ, List.getElem?_replicate, if_pos (by omega)] at this
    rw [show i = (i - 1) + 1 from by omega]
    exact Option.some.inj this
  have hne : kid 0 ≠ [] := by intro e; rw [e] at h32; simp at h32
  have hto : ∀ n, 1 ≤ n → n ≤ 16 → kidsTo kid n = [kid 0] := by
    intro n
    induction n with
    | zero => intro h1; omega
    | succ n ih =>
      intro _ hn
      rw [kidsTo_succ]
      by_cases h0 : n = 0
      · subst h0
        rw [if_neg hne]; rfl
      · rw [ih (by omega) (by omega), hz n (by omega) (by omega), if_pos rfl, List.append_nil]
  exact hto 16 (by omega) (by omega)
theorem no_kid {kid : Nat → Bs} (h : noKids kid = true) : kidsF kid = [] := by
  simp only [noKids, sameL, decide_eq_true_eq] at h
  have hz : ∀ i, i < 16 → kid i = [] := by
    intro i hi
    have := congrArg (fun l => l[i]?) h
    simp only [kidL, List.getElem?_map, List.getElem?_range hi, Option.map_some] at this
    rw [List.getElem?_replicate, if_pos hi] at this
    exact Option.some.inj this
  have hto : ∀ n, n ≤ 16 → kidsTo kid n = [] := by
    intro n
    induction n with
    | zero => intro _; rfl
    | succ n ih => intro hn; rw [kidsTo_succ, ih (by omega), hz n (by omega), if_pos rfl, List.append_nil]
  exact hto 16 (by omega)
/-- What a node's sums are, in its bytes. -/
theorem sums_in (k : Int) (p v : Bs) (kid : Nat → Bs) (h : chk k p v kid = true) :
    (∀ i, i < (kidsF kid).length → ((kidsF kid).getD i []).length = 32) ∧
    ((k = 3 ∧ 3 + 32 * (kidsF kid).length ≤ (enc k p v kid).length ∧ ∀ i, i < (kidsF kid).length → ((enc k p v kid).drop (3 + 32 * i)).take 32 = (kidsF kid).getD i []) ∨
     (k ≠ 3 ∧ ((kidsF kid).length : Int) = k - 1 ∧ (0 < (kidsF kid).length → 32 ≤ (enc k p v kid).length) ∧ ∀ i, i < (kidsF kid).length → (enc k p v kid).drop ((enc k p v kid).length - 32) = (kidsF kid).getD i [])) := by
  have getD_mem : ∀ (l : List Bs) i, i < l.length → l.getD i [] ∈ l := by
    intro l i hi
    rw [List.getD_eq_getElem?_getD, List.getElem?_eq_getElem hi]
    exact List.getElem_mem hi
  unfold chk at h
  split at h
  · subst k
    simp at h
    have hk := no_kid h.1.1.1
    rw [hk]
    exact ⟨fun i hi => by simp at hi, .inr ⟨by decide, rfl, fun h => by simp at h, fun i hi => by simp at hi⟩⟩
  · split at h
    · subst k
      simp only [Bool.and_eq_true] at h
      have h32 : (kid 0).length = 32 := by simpa [all32] using h.1.1.2
      have hk := one_kid h.1.1.1 h32
      rw [hk]
      have he : enc 2 p v kid = (2 :: text (pack p false).1) ++ kid 0 := by simp [enc]
      refine ⟨fun i hi => ?_, .inr ⟨by decide, rfl, fun _ => by rw [he, List.length_append]; omega, fun i hi => ?_⟩⟩
      · obtain rfl : i = 0 := by simpa using hi
        exact h32
      · obtain rfl : i = 0 := by simpa using hi
        rw [he, List.length_append, h32, Nat.add_sub_cancel, List.drop_left]
        rfl
    · split at h
      · subst k
        simp only [Bool.and_eq_true] at h
        have ha : ∀ x ∈ kidsF kid, x.length = 32 := by simpa [all32] using h.1.1.2
        have he : enc 3 p v kid = [3, UInt8.ofNat (hiK kid), UInt8.ofNat (loK kid)] ++ ((kidsF kid).flatten ++ text v) := by simp [enc]
        obtain ⟨h1, h2⟩ := flat_at (kidsF kid) (text v) ha
        refine ⟨fun i hi => ha _ (getD_mem _ i hi), .inl ⟨rfl, ?_, fun i hi => ?_⟩⟩
        · rw [he, List.length_append]
          simp only [List.length_cons, List.length_nil]
          omega
        · rw [he, ← h2 i hi, Nat.add_comm 3]
          rfl
      · cases h

end Pl
end Go.Proofs.YtdddcncjmnekcaaGreatDoor

/- Plain: what is reached from some sums. -/
set_option linter.unusedSimpArgs false
set_option linter.unusedVariables false
namespace Go.Proofs.YtdddcncjmnekcaaGreatDoor
open Pl

/-- The kids of a sum's node. -/
def kidsT (T : List Ent) (k : Bs) : List Bs := if (nodeT T k).2 = 0 then kidsF (nodeT T k).1.kid else []
inductive Rch (T : List Ent) (S : List Bs) : Bs → Prop
  | start {s : Bs} : s ∈ S → s ∈ keysE T → Rch T S s
  | step {a s : Bs} : Rch T S a → s ∈ kidsT T a → s ∈ keysE T → Rch T S s
/-- What holds while one goes. -/
structure RInv (T : List Ent) (S I W : List Bs) : Prop where
  nd : I.Nodup
  keys : ∀ x ∈ I, x ∈ keysE T
  rch : ∀ x ∈ I, Rch T S x
  wait : ∀ x ∈ W, x ∈ S ∨ ∃ a ∈ I, x ∈ kidsT T a
  all : ∀ x ∈ S, x ∈ keysE T → x ∈ I ∨ x ∈ W
  kid : ∀ a ∈ I, ∀ x ∈ kidsT T a, x ∈ keysE T → x ∈ I ∨ x ∈ W
theorem RInv.start (T : List Ent) (S : List Bs) : RInv T S [] S :=
  ⟨List.nodup_nil, fun _ h => (by cases h), fun _ h => (by cases h), fun _ h => .inl h, fun _ h _ => .inr h, fun _ h => (by cases h)⟩
theorem RInv.skip {T : List Ent} {S I W : List Bs} {s : Bs} (h : RInv T S I (W ++ [s])) (hs : s ∉ keysE T ∨ s ∈ I) : RInv T S I W := by
  refine ⟨h.nd, h.keys, h.rch, fun x hx => h.wait x (by simp [hx]), fun x hx hk => ?_, fun a ha x hx hk => ?_⟩
  · rcases h.all x hx hk with h1 | h1
    · exact .inl h1
    · rcases List.mem_append.1 h1 with h1 | h1
      · exact .inr h1
      · rw [List.mem_singleton] at h1
        subst h1
        rcases hs with hs | hs
        · exact absurd hk hs
        · exact .inl hs
  · rcases h.kid a ha x hx hk with h1 | h1
    · exact .inl h1
    · rcases List.mem_append.1 h1 with h1 | h1
      · exact .inr h1
      · rw [List.mem_singleton] at h1
        subst h1
        rcases hs with hs | hs
        · exact absurd hk hs
        · exact .inl hs
theorem RInv.take {T : List Ent} {S I W : List Bs} {s : Bs} (h : RInv T S I (W ++ [s])) (hk : s ∈ keysE T) (hn : s ∉ I) : RInv T S (I ++ [s]) (W ++ kidsT T s) := by
  have hr : Rch T S s := by
    rcases h.wait s (by simp) with h1 | ⟨a, ha, h1⟩
    · exact .start h1 hk
    · exact .step (h.rch a ha) h1 hk
  have hmv : ∀ x, x ∈ I ∨ x ∈ W ++ [s] → x ∈ I ++ [s] ∨ x ∈ W ++ kidsT T s := by
    rintro x (hx | hx)
    · exact .inl (by simp [hx])
    · rcases List.mem_append.1 hx with hx | hx
      · exact .inr (by simp [hx])
      · exact .inl (by simp at hx; simp [hx])
  refine ⟨?_, fun x hx => ?_, fun x hx => ?_, fun x hx => ?_, fun x hx hxk => hmv x (h.all x hx hxk), fun a ha x hx hxk => ?_⟩
  · rw [List.nodup_append]
    exact ⟨h.nd, by simp, fun a ha b hb e => by simp at hb; subst hb e; exact hn ha⟩
  · rcases List.mem_append.1 hx with hx | hx
    · exact h.keys x hx
    · rw [List.mem_singleton] at hx; subst hx; exact hk
  · rcases List.mem_append.1 hx with hx | hx
    · exact h.rch x hx
    · rw [List.mem_singleton] at hx; subst hx; exact hr
  · rcases List.mem_append.1 hx with hx | hx
    · rcases h.wait x (by simp [hx]) with h1 | ⟨a, ha, h1⟩
      · exact .inl h1
      · exact .inr ⟨a, by simp [ha], h1⟩
    · exact .inr ⟨s, by simp, hx⟩
  · rcases List.mem_append.1 ha with ha | ha
    · exact hmv x (h.kid a ha x hx hxk)
    · rw [List.mem_singleton] at ha
      subst ha
      exact .inr (by simp [hx])
theorem RInv.done {T : List Ent} {S I : List Bs} (h : RInv T S I []) : ∀ s, s ∈ I ↔ Rch T S s := by
  intro s
  refine ⟨h.rch s, fun hr => ?_⟩
  induction hr with
  | start h1 h2 => rcases h.all _ h1 h2 with h3 | h3; exact h3; cases h3
  | step _ h1 h2 ih => rcases h.kid _ ih _ h1 h2 with h3 | h3; exact h3; cases h3
theorem RInv.len {T : List Ent} {S I W : List Bs} (h : RInv T S I W) : I.length ≤ T.length := by
  have := nodup_len I (keysE T) h.nd h.keys
  unfold keysE at this
  rwa [List.length_map] at this
theorem kids_le (T : List Ent) (k : Bs) : (kidsT T k).length ≤ 16 := by
  unfold kidsT
  split
  · exact kidsTo_len _ 16
  · simp
/-- A node's kids have 32 bytes. -/
theorem chk_32 {kind : Int} {path val : Bs} {kid : Nat → Bs} (h : chk kind path val kid = true) : ∀ x ∈ kidsF kid, x.length ≤ 32 := by
  unfold chk at h
  intro x hx
  split at h
  · simp only [Bool.and_eq_true] at h
    rw [no_kid h.1.1.1] at hx
    cases hx
  · split at h
    · simp only [Bool.and_eq_true] at h
      have h32 : (kid 0).length = 32 := by simpa [all32] using h.1.1.2
      rw [one_kid h.1.1.1 h32] at hx
      simp at hx
      subst hx
      omega
    · split at h
      · simp only [Bool.and_eq_true] at h
        have := h.1.1.2
        unfold all32 at this
        rw [List.all_eq_true] at this
        have := this x hx
        simp at this
        omega
      · cases h
theorem decEnd_chk (x : Nd × Bs × Int) (f : Bool) (h : (decEnd x f).2 = 0) : chk (decEnd x f).1.kind (decEnd x f).1.path (decEnd x f).1.val (decEnd x f).1.kid = true := by
  unfold decEnd at *
  split
  · rename_i hc
    exact hc.2.2
  · rename_i hc
    rw [if_neg hc] at h
    exact absurd h (by decide)
theorem dec_chk (s : Bs) (h : (dec s).2 = 0) : chk (dec s).1.kind (dec s).1.path (dec s).1.val (dec s).1.kid = true := by
  unfold dec at *
  split at h
  · exact absurd h (by decide)
  · split at h
    · split at h
      · simp only [*]
        exact decEnd_chk _ _ h
      · exact absurd h (by decide)
    · split at h
      · simp only [*]
        exact decEnd_chk _ _ h
      · simp only [*]
        exact decEnd_chk _ _ h
theorem kids_short (T : List Ent) (k : Bs) : ∀ x ∈ kidsT T k, x.length ≤ 32 := by
  intro x hx
  unfold kidsT at hx
  split at hx
  · rename_i h0
    by_cases hin : k ∈ keysE T
    · rw [nodeT_in hin] at h0 hx
      exact chk_32 (dec_chk _ h0) x hx
    · rw [nodeT_out hin] at h0
      exact absurd h0 (by decide)
  · cases hx
end Go.Proofs.YtdddcncjmnekcaaGreatDoor

/- The laws of the library that the sorts lean on, at this program. -/
set_option linter.unusedVariables false
namespace Go.Proofs.YtdddcncjmnekcaaGreatDoor
open Go.Shelf

def laysCloneS_ren : Go.Shelf.Ren := ⟨fun | 41 => 34 | n => n, fun | 22 => 26 | 23 => 9 | 4 => 4 | n => n, fun | n => n⟩
theorem laysCloneS : Go.Proofs.SlLaysE0.n41 Tryz.prog laysCloneS_ren := {
  mixed := by kernel_rfl
  f41 := ⟨Tryz.f34.name, by decide, Tryz.func34.trans (congrArg some (by kernel_rfl))⟩
  t4 := Tryz.underlying4
  a4 := Tryz.isAgg4
  z4 := Tryz.sizeOf4
  v4 := Tryz.zeroValue4
  t22 := Tryz.underlying26
  a22 := Tryz.isAgg26
  z22 := Tryz.sizeOf26
  v22 := Tryz.zeroValue26 }

end Go.Proofs.YtdddcncjmnekcaaGreatDoor

/- Lists that are lent with a text behind; whole lists appended. -/
set_option linter.unusedSimpArgs false
set_option linter.unusedVariables false
namespace Go.Proofs.YtdddcncjmnekcaaGreatDoor
open Go.RowKit Pl

section
variable {ops : Array Oper} {o : Oper} {rest : List Oper} {a : Act} {w : World} {Q : Exit → Act → World → Prop}
/-- append(v, x...) of texts, v own, x any. -/
theorem wpList_appSS (hgd : o.guard = none) (s x : Operand)
    (ho : o.op = .call { callee := .builtin .append, args := #[s, x], argTypes := #[26, 26] })
    (base : Nat) (v : Value) (l : List Bs) (hs : a.eval s = v) (hown : SRow w base v l)
    (u : Value) (news : List Bs) (hx : a.eval x = u) (hsrc : SS w u news)
    (hlen : l.length + news.length ≤ 8796093022208) (hbase : base ≤ w.heap.size)
    (h : ∀ v' w', SRow w' base v' (l ++ news) → Below base w w' → wpList Tryz.prog ops Q rest (a.put o.dst v') w') : wpList Tryz.prog ops Q (o :: rest) a w := by
  obtain ⟨au, cu, hu, h1, h2, h3⟩ := hsrc
  by_cases hn : news = []
  · subst hn
    obtain ⟨i0, hi, hz0, hz1, hz2⟩ := info_parts infoStr
    obtain ⟨va, vc, hv⟩ := hown.form
    have hle : l.length ≤ vc := by
      rcases hown.cells with ⟨e, e2⟩ | ⟨g, cap, e, _, _, h4, _⟩
      · subst e2; simp
      · rw [hv] at e; injection e with _ _ e; subst e; exact h4
    have hS : Src Tryz.prog i0.size 26 u 0 [] w := by
      subst hu
      cases au with
      | none => exact Src.ofNil w Tryz.underlying26 cu
      | some ad => exact Src.ofSlice w Tryz.underlying26 ad 0 cu [] (by simp) (fun j u h => by simp at h) (fun _ h => by cases h)
    have hr := run_append_nothing (P := Tryz.prog) w 26 26 o.type 9 i0 Tryz.underlying26 hi va l.length vc hle u hS
    refine wpList_plain hgd fun K hK => ?_
    unfold Oper.wp execOp
    simp only [ho, resolve, invoke, builtin, Sem.run_bind, Sem.run_pure, Result.andThen_ok, List.map_toArray, List.map_cons, List.map_nil, hs, hx, hv, hr]
    exact hK _ _ (h _ w (by rw [List.append_nil, ← hv]; exact hown) (Below.refl _ _))
  · obtain ⟨g, off, rfl, hg, hc⟩ := h3 hn
    exact wpList_appS hgd s x ho base v l hs hown g off news.length cu news (hx.trans hu) rfl hc hlen hbase h
end

def beh : Bs := [98, 101, 104, 105, 110, 100]
theorem SRow.lt {w : World} {b : Nat} {v : Value} {l : List Bs} (h : SRow w b v l) : ∀ k, v.ownBlock = some k → k < w.heap.size := by
  intro k hk
  rcases h.cells with ⟨rfl, _⟩ | ⟨g, cap, rfl, _, hg, _⟩
  · cases hk
  · cases hk; exact hg
theorem SRow.grown {w w' : World} {b : Nat} {row : Option Nat} {v : Value} {l : List Bs} (h : SRow w b v l) (hg : w.grownBy w' row) (hn : ∀ k, v.ownBlock = some k → row ≠ some k) : SRow w' b v l :=
  h.kept (fun k hk => hg.block k (h.lt k hk) (fun e => hn k hk e.symm))
section
variable {ops : Array Oper} {o : Oper} {rest : List Oper} {a : Act} {w : World} {Q : Exit → Act → World → Prop}
/-- append(v, x...): where the new slice lies, too. -/
theorem wpList_appAt (hgd : o.guard = none) (s x : Operand)
    (ho : o.op = .call { callee := .builtin .append, args := #[s, x], argTypes := #[26, 26] })
    (base : Nat) (v : Value) (l : List Bs) (hs : a.eval s = v) (hown : SRow w base v l)
    (u : Value) (news : List Bs) (hx : a.eval x = u) (hsrc : SS w u news)
    (hlen : l.length + news.length ≤ 8796093022208) (hbase : base ≤ w.heap.size)
    (h : ∀ v' w', SRow w' base v' (l ++ news) → w.grownBy w' v.ownBlock → (v'.ownBlock = v.ownBlock ∨ v'.ownBlock = some w.heap.size) → wpList Tryz.prog ops Q rest (a.put o.dst v') w') : wpList Tryz.prog ops Q (o :: rest) a w := by
  obtain ⟨au, cu, hu, h1, h2, h3⟩ := hsrc
  obtain ⟨i0, hi, hz0, hz1, hz2⟩ := info_parts infoStr
  by_cases hn : news = []
  · subst hn
    obtain ⟨va, vc, hv⟩ := hown.form
    have hle : l.length ≤ vc := by
      rcases hown.cells with ⟨e, e2⟩ | ⟨g, cap, e, _, _, h4, _⟩
      · subst e2; simp
      · rw [hv] at e; injection e with _ _ e; subst e; exact h4
    have hS : Src Tryz.prog i0.size 26 u 0 [] w := by
      subst hu
      cases au with
      | none => exact Src.ofNil w Tryz.underlying26 cu
      | some ad => exact Src.ofSlice w Tryz.underlying26 ad 0 cu [] (by simp) (fun j u h => by simp at h) (fun _ h => by cases h)
    have hr := run_append_nothing (P := Tryz.prog) w 26 26 o.type 9 i0 Tryz.underlying26 hi va l.length vc hle u hS
    refine wpList_plain hgd fun K hK => ?_
    unfold Oper.wp execOp
    simp only [ho, resolve, invoke, builtin, Sem.run_bind, Sem.run_pure, Result.andThen_ok, List.map_toArray, List.map_cons, List.map_nil, hs, hx, hv, hr]
    exact hK _ _ (h _ w (by rw [List.append_nil, ← hv]; exact hown) ⟨rfl, rfl, rfl, Nat.le_refl _, fun _ _ _ => rfl⟩ (.inl (by rw [hv])))
  · obtain ⟨g, off, rfl, hg, hc⟩ := h3 hn
    refine wpList_append_own_at w hgd s x 26 ho base 9 i0 (.string ⟨#[]⟩) 1 16 Tryz.underlying26 hi hz0 hz1 hz2 rfl (by decide) v l.length (sv l) hs hown ⟨g, off, none⟩ news.length cu (sv news) (hx.trans hu) (by rw [sv_len]; omega) (ssrc_news hc) (sone news)
      (by unfold maxLen; omega) (by omega) hbase (fun v' w' h2 h3 _ h5 => h v' w' ?_ h3 h5)
    unfold SRow
    rw [List.length_append, show sv (l ++ news) = sv l ++ sv news from by simp [sv]]
    exact h2
end
theorem SRow.snoc {w : World} {b : Nat} {v : Value} {l : List Bs} {x : Bs} (h : SRow w b v (l ++ [x])) : ∃ g cap, v = .slice (some ⟨g, 0, none⟩) (l.length + 1) cap ∧ l.length + 1 ≤ cap ∧ (l.length : Int) + 1 ≤ cap := by
  rcases h.cells with ⟨_, e⟩ | ⟨g, cap, e, _, _, h3, _⟩
  · simp at e
  · rw [List.length_append] at e h3
    exact ⟨g, cap, e, by simpa using h3, by simp at h3; omega⟩
/-- v is a list that was lent: it reads as l, and behind it stands a text. -/
def Lent (w : World) (base : Nat) (v : Value) (l : List Bs) : Prop :=
  ∃ g cap, v = .slice (some ⟨g, 0, none⟩) l.length cap ∧ SRow w base (.slice (some ⟨g, 0, none⟩) (l.length + 1) cap) (l ++ [beh])
theorem Lent.cells {w : World} {base : Nat} {v : Value} {l : List Bs} (h : Lent w base v l) :
    ∃ g cap, v = .slice (some ⟨g, 0, none⟩) l.length cap ∧ base ≤ g ∧ g < w.heap.size ∧ l.length + 1 ≤ cap ∧ cap ≤ maxLen ∧ (∀ i, i < l.length → w.cell? ⟨g, i, none⟩ = some (.string ⟨List.toArray (l.getD i [])⟩)) ∧ w.cell? ⟨g, l.length, none⟩ = some (.string ⟨List.toArray (beh)⟩) := by
  obtain ⟨g, cap, rfl, hr⟩ := h
  rcases hr.cells with ⟨e, _⟩ | ⟨g', cap', e, h1, h2, h3, h4, h5, _⟩
  · cases e
  · injection e with e1 _ e3
    injection e1 with e1
    injection e1 with e1 _ _
    subst e1 e3
    simp at h3 h5
    refine ⟨g, cap, rfl, h1, h2, h3, h4, fun i hi => ?_, ?_⟩
    · rw [h5 i (by omega), List.getElem?_append_left hi]
      rfl
    · rw [h5 l.length (by omega)]
      simp
theorem Lent.ss {w : World} {base : Nat} {v : Value} {l : List Bs} (h : Lent w base v l) : SS w v l := by
  obtain ⟨g, cap, rfl, h1, h2, h3, h4, h5, h6⟩ := h.cells
  exact SS.of (by omega) h4 h2 (fun i hi => by rw [Nat.zero_add]; exact h5 i hi)
theorem Lent.keep {W w : World} {base : Nat} {v : Value} {l : List Bs} (h : Lent W base v l) (hb : Below W.heap.size W w) : Lent w base v l := by
  obtain ⟨g, cap, e, hr⟩ := h
  exact ⟨g, cap, e, hr.keep hb⟩
theorem Lent.low {w : World} {b c : Nat} {v : Value} {l : List Bs} (h : Lent w b v l) (hc : c ≤ b) : Lent w c v l := by
  obtain ⟨g, cap, e, hr⟩ := h
  exact ⟨g, cap, e, hr.low hc⟩

set_option maxRecDepth 100000 in
set_option maxHeartbeats 400000 in
theorem lend_any (v : Value) (l : List Bs) (hl : l.length ≤ 1000000) (w : World) (hv : SS w v l) :
    Calls Tryz.prog 6 #[v] w fun e w' => ∃ u, e = .returned u ∧ Lent w' w.heap.size u l ∧ Below w.heap.size w w' := by
  have hf := hv.form
  obtain ⟨a, c, rfl⟩ := hf
  have HV := Lib.hid hv
  clear hv
  go_enter Tryz.func6, Tryz.ntmps6
  go_wp2_with (first
    | (at_builtin; refine wpList_appSS rfl (.tmp 4) (.tmp 5) rfl w.heap.size (.slice none 0 0) [] rfl (SRow.nil _ _) _ l rfl HV.out (by simp; omega) (Nat.le_refl _) ?_; rintro v1 w1 hS1 hb1; rw [List.nil_append] at hS1)
    | (at_builtin; refine wpList_appS rfl (.tmp 7) (.tmp 8) rfl w.heap.size _ l rfl (hS1.alloc _) w1.heap.size 0 1 1 [beh] rfl rfl (ssrc1 _ _ _) (by omega) (by simp; have := hb1.size; omega) ?_; rintro v2 w2 hS2 hb2; obtain ⟨g2, cap2, rfl, q3n, q3'⟩ := hS2.snoc)
    | fail)
  all_goals go_ret
  all_goals exact ⟨_, rfl, ⟨g2, cap2, rfl, hS2⟩, (Below.allocS hb1 (.cells #[.string ⟨List.toArray (beh)⟩] 9)).trans hb2⟩

set_option maxRecDepth 100000 in
set_option maxHeartbeats 400000 in
theorem kept_any (base : Nat) (u v : Value) (l : List Bs) (w : World) (hu : Lent w base u l) (hv : SS w v l) :
    Calls Tryz.prog 9 #[u, v] w fun e w' => e = .returned (.bool true) ∧ Below w.heap.size w w' := by
  obtain ⟨g, cap, rfl, h1, h2, h3, h4, h5, h6⟩ := hu.cells
  obtain ⟨b, d, rfl⟩ := hv.form
  have hsame := sametexts_self _ _ l w hu.ss hv
  have hq : (l.length : Int) + 1 ≤ (cap : Int) := by omega
  unfold maxLen at h4
  have q1 : IntKind.i64.wrap ((l.length : Int) + 1) = (l.length : Int) + 1 := IntWalk.i64_in _ (by omega)
  have HS := Lib.hid hsame
  clear hsame hu hv h5
  go_enter Tryz.func9, Tryz.ntmps9
  go_wp2_with fail
  refine HS.out.mono ?_
  rintro e w1 ⟨rfl, n, rfl⟩
  go_wp2_with fail
  all_goals (go_ret; exact ⟨rfl, below_drewN (Below.refl _ _) n⟩)
end Go.Proofs.YtdddcncjmnekcaaGreatDoor

/- The walk of reached. -/
set_option linter.unusedSimpArgs false
set_option linter.unusedVariables false
namespace Go.Proofs.YtdddcncjmnekcaaGreatDoor
open Go.RowKit Go.WideMaps Go.Maps Go.Sort Go.Shelf Pl

theorem cloneS_row (base : Nat) (v : Value) (L : List Bs) (w : World) (h : SRow w base v L) (hL : L.length ≤ 1000000) :
    Calls Tryz.prog 34 #[v] w fun e w' => ∃ v', e = .returned v' ∧ SRow w' w.heap.size v' L ∧ Below w.heap.size w w' := by
  rcases h.cells with ⟨rfl, rfl⟩ | ⟨g, cap, rfl, h1, h2, h3, h4, h5, h6⟩
  · refine (AnyE.slices_Clone_nil laysCloneS 0 0 w).mono ?_
    rintro e w' ⟨rfl, rfl⟩
    exact ⟨_, rfl, SRow.nil _ _, Below.refl _ _⟩
  · obtain ⟨i0, hi, hz0, hz1, hz2⟩ := info_parts infoStr
    refine (AnyE.slices_Clone laysCloneS i0 _ 1 16 hi hz0 hz1 hz2 rfl (by decide) Tryz.sizeOf9 g 0 L.length cap (sv L) w (by rw [sv_len]; omega) (by unfold maxLen; omega) (by omega) (fun j u hj => ?_) (sone L)).mono ?_
    · have hj2 : j < L.length := by
        have := (List.getElem?_eq_some_iff.1 hj).1
        rw [sv_len] at this; exact this
      rw [Nat.zero_add, h5 j hj2]
      rw [← hj]
      simp [sv, List.getD, List.getElem?_eq_getElem hj2]
    · rintro e w' ⟨v', rfl, hr, _, hb⟩
      exact ⟨v', rfl, hr, hb⟩
/-- A set of texts as a map of ones. -/
structure InD (D : DataW Unit) (I : List Bs) : Prop where
  has : ∀ k : Bs, Maps.has D (.string k) = decide (k ∈ I)
  val : ∀ k : Bs, D.atKey (.string k) (.lit (.int .i64 0)) = .lit (.int .i64 (if k ∈ I then 1 else 0))
  size : Maps.size D = I.length
theorem InD.start : InD (.map []) [] := ⟨fun k => (by rw [has_eq]; simp), fun k => (by rw [atKey_of_not_has (by rw [has_eq]; rfl)]; simp), rfl⟩
theorem InD.put {D : DataW Unit} {I : List Bs} (h : InD D I) (hD : Tidy D) (s : Bs) (hn : s ∉ I) : InD (D.put (.string s) (.lit (.int .i64 1))) (I ++ [s]) := by
  refine ⟨fun k => ?_, fun k => ?_, ?_⟩
  · by_cases e : k = s
    · subst e
      rw [has_put_same hD.isMap (isKeyS k)]
      simp
    · rw [has_put_other (by intro h; injection h with h; exact e h), h.has, decide_eq_decide]
      simp [e]
  · by_cases e : k = s
    · subst e
      rw [atKey_put_same hD.isMap (isKeyS k)]
      simp
    · rw [atKey_put_other (by intro h; injection h with h; exact e h), h.val]
      simp [e]
  · rw [size_put hD, h.has, if_neg (by simpa using hn), h.size, List.length_append]
    rfl
/-- How many a map has. -/
def msize (w : World) (b : Nat) : Nat := match w.heap[b]? with
  | some (.map es _) => es.size
  | _ => 0
theorem msize_of {H : Type} {w : World} {R : Value → Option (DataW H × List MemPlace)} {b n : Nat} {D : DataW H} (h : w.ownsMap Tryz.prog 9 R b n D) : msize w b = Maps.size D := by
  obtain ⟨es, c, h1, _, _, rfl⟩ := h
  unfold msize
  rw [h1]
  simp [Maps.size, length_sorted]
theorem SRow.dropLast {w : World} {base g n cap : Nat} {L : List Bs} {x : Bs} (h : SRow w base (.slice (some ⟨g, 0, none⟩) n cap) (L ++ [x])) : SRow w base (.slice (some ⟨g, 0, none⟩) L.length cap) L := by
  have hn : n = L.length + 1 := by
    obtain ⟨a, c, e⟩ := h.form
    injection e with _ e _
    rw [e, List.length_append]
    rfl
  subst hn
  rcases h.2 with ⟨e, _⟩ | ⟨g', cap', cur, e, h1, h2, h3, h4, h5, h6⟩
  · cases e
  · injection e with e1 _ e2
    injection e1 with e1
    injection e1 with e1 _ _
    subst e1 e2
    rw [List.length_append] at h3 h6
    refine ⟨by rw [sv_len, Nat.mul_one], .inr ⟨g, cap, cur, rfl, h1, h2, by simp at h3; omega, h4, h5, ?_⟩⟩
    have := congrArg (List.take L.length) h6
    rw [List.take_take] at this
    simp only [List.length_cons, List.length_nil, Nat.mul_one] at this ⊢
    rw [Nat.min_eq_left (by omega)] at this
    rw [this]
    simp [sv]
set_option maxRecDepth 100000 in
set_option maxHeartbeats 4000000 in
theorem reached_anyM (base base2 p b : Nat) (T : List Ent) (hsh : ShortE T) (hT : T.length ≤ 1000) (u : Value) (S : List Bs) (hSn : S.length ≤ 100000) (hSl : ∀ x ∈ S, x.length ≤ maxLen) (w : World) (h : Sto w base p b T) (hu : SRow w base2 u S) :
    Calls Tryz.prog 17 #[.pointer (some ⟨p, 0, none⟩), u] w fun e w' => ∃ (q : Nat) (I : List Bs) (D : DataW Unit), e = .returned (.map (some q)) ∧ w.heap.size ≤ q ∧ w'.ownsMap Tryz.prog 9 (plainElem Tryz.prog 3) q I.length D ∧ InD D I ∧ I.Nodup ∧ (∀ s, s ∈ I ↔ Rch T S s) ∧ (∀ x ∈ I, x ∈ keysE T) ∧ Below w.heap.size w w' := by
  have hmm := @run_makeMap Tryz.prog
  have hown0 : (w.alloc (.map #[] 0)).ownsMap (H := Unit) Tryz.prog 9 (plainElem Tryz.prog 3) w.heap.size 0 (.map []) := World.ownsMap_made _ _ _ _
  have hb0 : Below w.heap.size w (w.alloc (.map #[] 0)) := (Below.refl _ _).alloc (Nat.le_refl _) _
  have hcl := cloneS_row base2 u S (w.alloc (.map #[] 0)) (hu.keep hb0) (by omega)
  have HS := Lib.hid h
  have HSL := Lib.hid hSl
  have HSH := Lib.hid hsh
  clear h hu hSl hsh
  go_enter Tryz.func17, Tryz.ntmps17
  go_wp2_with fail
  refine hcl.mono ?_
  rintro e w1 ⟨v1, rfl, hr1, hb⟩
  have hsz : (w.alloc (.map #[] 0)).heap.size = w.heap.size + 1 := by simp
  rw [hsz] at hr1 hb
  have hown1 := ownsMap_at hown0 (hb.block w.heap.size (by omega))
  have hb1 := hb0.trans (hb.mono (by omega))
  have hs1 : w.heap.size + 1 ≤ w1.heap.size := by have := hb.size; rw [hsz] at this; exact this
  clear hb hb0 hown0 hcl hsz hmm
  obtain ⟨q, hq⟩ : ∃ q, q = w.heap.size := ⟨_, rfl⟩
  rw [← hq] at hr1 hown1 hs1 ⊢
  have hqw : w.heap.size ≤ q := by omega
  clear hq
  go_wp2_with fail
  go_loopw [6] (fun s6 wr => ∃ (I Wt : List Bs) (D : DataW Unit), SRow wr (q + 1) s6 Wt ∧ wr.ownsMap Tryz.prog 9 (plainElem Tryz.prog 3) q I.length D ∧ InD D I ∧ Hid (RInv T S I Wt) ∧ Hid (∀ x ∈ Wt, x.length ≤ maxLen) ∧ Wt.length ≤ S.length + 16 * I.length ∧ Below w.heap.size w wr ∧ q + 1 ≤ wr.heap.size) (fun s6 wr => 17 * (T.length - msize wr q) + lenS s6)
  case atStart => exact ⟨[], S, _, hr1, hown1, InD.start, Lib.hid (RInv.start T S), HSL, by omega, hb1, hs1⟩
  case round =>
    obtain ⟨I, Wt, D, hr, hown, hI, HR, HW, hWl, hbr, hsr⟩ := hrel
    clear hr1 hown1 hb1 hs1
    have hIl := HR.out.len
    have hS := HS.out.keep hbr
    obtain ⟨b1, b2, b3⟩ := id hS.blk
    rcases List.eq_nil_or_concat Wt with h0 | ⟨W', x, hWx⟩
    · subst h0
      obtain ⟨wa, wc, rfl⟩ := hr.form
      go_wp2_with fail
      all_goals (go_ret; exact ⟨q, I, D, rfl, hqw, hown, hI, HR.out.nd, HR.out.done, HR.out.keys, hbr⟩)
    · rw [List.concat_eq_append] at hWx
      subst hWx
      rcases hr.cells with ⟨_, e⟩ | ⟨g, cap, rfl, g1, g2, g3, g4, g5, g6⟩
      · simp at e
      have hlen : (W' ++ [x]).length = W'.length + 1 := by simp
      have hr' : SRow wr (q + 1) (.slice (some ⟨g, 0, none⟩) W'.length cap) W' := SRow.dropLast hr
      have q0 := g5 W'.length (by rw [hlen]; omega)
      rw [show (W' ++ [x]).getD W'.length [] = x from by simp] at q0
      rw [hlen] at g3 hWl ⊢
      have hx1 : x.length ≤ maxLen := HW.out x (by simp)
      have HW' : Hid (∀ y ∈ W', y.length ≤ maxLen) := Lib.hid (fun y hy => HW.out y (by simp [hy]))
      have hxm : x.length ≤ maxLen := hx1
      obtain ⟨v, hrun, _, hv2⟩ := hS.look x hxm
      obtain ⟨k, hrunI, hat, _⟩ := hown.lookup_int keyedS Tryz.underlying49 Tryz.underlying3 (zeroI _) (keyS x hxm)
      rw [hI.val] at hat
      have hk : k = if x ∈ I then 1 else 0 := by
        injection hat with hat
        injection hat with _ hat
        exact hat.symm
      clear hat g5 g6 hr
      have hml : msize wr q = I.length := by rw [msize_of hown, hI.size]
      have i0 : (W'.length : Int) + 1 - 1 = (W'.length : Int) := by omega
      have hwl : W'.length ≤ 9223372036854775000 := by unfold maxLen at g4; omega
      have i1 : IntKind.i64.wrap (W'.length : Int) = (W'.length : Int) := by rw [IntKind.wrap_i64]; omega
      have i2 : (W'.length : Int) ≤ (cap : Int) := by omega
      have i3 : (0 : Int) ≤ (W'.length : Int) ∧ (W'.length : Int) < (W'.length : Int) + 1 := by omega
      have i4 : (0 : Int) < (W'.length : Int) + 1 := by omega
      by_cases hin : x ∈ keysE T
      case neg =>
        rw [show decide (x ∈ keysE T) = false from by simpa using hin] at hrun
        obtain rfl := hv2 hin
        clear hv2 hrunI hk
        go_wp2_with fail
        exact ⟨⟨I, W', D, hr', hown, hI, Lib.hid (HR.out.skip (.inl hin)), HW', by omega, hbr, hsr⟩, by simp [lenS]⟩
      case pos =>
      rw [show decide (x ∈ keysE T) = true from by simpa using hin] at hrun
      clear hv2
      by_cases hI2 : x ∈ I
      case pos =>
        rw [if_pos hI2] at hk
        subst hk
        go_wp2_with fail
        exact ⟨⟨I, W', D, hr', hown, hI, Lib.hid (HR.out.skip (.inr hI2)), HW', by omega, hbr, hsr⟩, by simp [lenS]⟩
      case neg =>
      rw [if_neg hI2] at hk
      subst hk
      have htd := hown.tidy keyedS
      obtain ⟨w2, hrun2, hown2, hg2⟩ := hown.update keyedS Tryz.underlying49 (by unfold maxLen; omega) (keyS x hxm) (show plainElem Tryz.prog 3 (.int .i64 (1)) = some (.lit (.int .i64 1), []) from plainElem_int Tryz.underlying3 (by decide))
      have hI3 := hI.put htd x hI2
      have hb2 : Below w.heap.size w w2 := hbr.grown hg2 hbr.size (fun j hj => by cases hj; exact hqw)
      have hr2 : SRow w2 (q + 1) (.slice (some ⟨g, 0, none⟩) W'.length cap) W' := hr'.grown hg2 (fun k hk e => by have := hr'.own k hk; injection e with e; omega)
      have hs2 := Nat.le_trans hsr hg2.size
      have hR2 := Lib.hid (HR.out.take hin hI2)
      have hn2 := snode_any base p b T HSH.out x hxm w2 (HS.out.keep hb2)
      have hkd : kidsT T x = if (nodeT T x).2 = 0 then kidsF (nodeT T x).1.kid else [] := rfl
      have hk16 := kids_le T x
      have hksh := kids_short T x
      generalize nodeT T x = nt at *
      obtain ⟨⟨kd, pa, va, kk⟩, code⟩ := nt
      simp only at hn2 hkd
      have HKS : Hid (∀ y ∈ kidsT T x, y.length ≤ 32) := Lib.hid hksh
      have HK16 := Lib.hid hk16
      have HKD := Lib.hid hkd
      clear hksh hk16 hkd hr' hown hg2 hbr hsr hI htd
      generalize kidsT T x = ks at *
      have hw1 : IntKind.i64.wrap (0 + 1) = 1 := by rw [IntKind.wrap_i64]; omega
      go_wp2_with fail
      refine hn2.mono ?_
      rintro e w3 ⟨rfl, hb⟩
      have hb3 := hb2.trans (hb.mono hb2.size)
      have hr3 := hr2.keep hb
      have hown3 := ownsMap_at hown2 (hb.block q (by omega))
      have hs3 := Nat.le_trans hs2 hb.size
      clear hn2 hb hb2 hr2 hown2 hs2 hrun hrunI hrun2 b1 b2 b3
      by_cases hc : code = 0
      case pos =>
        subst hc
        have hks := HKD.out
        rw [if_pos rfl] at hks
        have hkc := fun W => kids_any kd pa va kk W
        rw [← hks] at hkc
        clear hks
        go_wp2_with (first | (refine wpList_node rfl (.tmp 10) rfl rfl N4 ?_) | (refine wpList_nodeStore rfl rfl (.tmp 10) (.tmp 54) rfl rfl (kind := kd) (path := pa) (val := va) (kid := kk) rfl (k2 := 0) (p2 := []) (v2 := []) (kid2 := noK) (Blk.new' (by simp)) ?_; intro w4 N4 m4))
        refine (hkc _).mono ?_
        rintro e w5 ⟨xa, xc, rfl, hk5, hb5⟩
        have hb34 : Below w3.heap.size w3 w4 := Below.mod (Below.allocS (Below.refl _ _) _) m4 (by simp) (by simp)
        have hb4 := hb3.trans (hb34.mono hb3.size)
        have hr4 := hr3.keep hb34
        have hown4 := ownsMap_at hown3 (hb34.block q (by omega))
        have hs4 := Nat.le_trans hs3 hb34.size
        clear hb34 m4 hb3 hr3 hown3 hs3
        have hb5' := hb4.trans (hb5.mono hb4.size)
        have hr5 := hr4.keep hb5
        have hown5 := ownsMap_at hown4 (hb5.block q (by omega))
        have hs5 := Nat.le_trans hs4 hb5.size
        have hk5s := hk5.ss
        have hkl := HK16.out
        clear hb5 hb4 hr4 hown4 hs4 hk5 N4
        go_wp2_with (refine wpList_appSS rfl (.tmp 58) (.tmp 60) rfl (q + 1) (.slice (some ⟨g, 0, none⟩) W'.length cap) W' rfl hr5 _ ks rfl hk5s (by omega) hs5 ?_; intro v6 w6 hr6 hb6)
        have hown6 := ownsMap_at hown5 (hb6.block q (by omega))
        have hf6 := hr6.form
        obtain ⟨a6, c6, rfl⟩ := hf6
        have hm6 : msize w6 q = I.length + 1 := by rw [msize_of hown6, hI3.size]; simp
        have hle := hR2.out.len
        simp only [List.length_append, List.length_cons, List.length_nil] at hle
        refine ⟨⟨I ++ [x], W' ++ ks, _, hr6, ?_, hI3, hR2, Lib.hid (fun y hy => ?_), ?_, hb5'.trans (hb6.mono (by omega)), Nat.le_trans hs5 hb6.size⟩, ?_⟩
        · rw [List.length_append]; exact hown6
        · rcases List.mem_append.1 hy with hy | hy
          · exact HW'.out y hy
          · have := HKS.out y hy; unfold maxLen; omega
        · rw [List.length_append, List.length_append, List.length_cons, List.length_nil]; omega
        · rw [hm6, hml]
          simp only [lenS, List.length_append]
          omega
      case neg =>
        have ez : (code == 0) = false := by simpa using hc
        have hks := HKD.out
        rw [if_neg hc] at hks
        go_wp2_with (refine wpList_nodeStore rfl rfl (.tmp 10) (.tmp 54) rfl rfl (kind := kd) (path := pa) (val := va) (kid := kk) rfl (k2 := 0) (p2 := []) (v2 := []) (kid2 := noK) (Blk.new' (by simp)) ?_; intro w4 N4 m4)
        have hb34 : Below w3.heap.size w3 w4 := Below.mod (Below.allocS (Below.refl _ _) _) m4 (by simp) (by simp)
        have hb4 := hb3.trans (hb34.mono hb3.size)
        have hr4 := hr3.keep hb34
        have hown4 := ownsMap_at hown3 (hb34.block q (by omega))
        have hs4 := Nat.le_trans hs3 hb34.size
        clear hb34 m4 hb3 hr3 hown3 hs3
        have hm6 : msize w4 q = I.length + 1 := by rw [msize_of hown4, hI3.size]; simp
        have hle := hR2.out.len
        simp only [List.length_append, List.length_cons, List.length_nil] at hle
        refine ⟨⟨I ++ [x], W', _, hr4, ?_, hI3, ?_, HW', ?_, hb4, hs4⟩, ?_⟩
        · rw [List.length_append]; exact hown4
        · have := hR2.out
          rw [hks, List.append_nil] at this
          exact Lib.hid this
        · rw [List.length_append, List.length_cons, List.length_nil]; omega
        · rw [hm6, hml]
          simp only [lenS]
          omega
theorem reached_any (base base2 p b : Nat) (T : List Ent) (hsh : ShortE T) (hT : T.length ≤ 1000) (u : Value) (S : List Bs) (hSn : S.length ≤ 100000) (hSl : ∀ x ∈ S, x.length ≤ 1000) (w : World) (h : Sto w base p b T) (hu : SRow w base2 u S) :
    Calls Tryz.prog 17 #[.pointer (some ⟨p, 0, none⟩), u] w fun e w' => ∃ (q : Nat) (I : List Bs) (D : DataW Unit), e = .returned (.map (some q)) ∧ w.heap.size ≤ q ∧ w'.ownsMap Tryz.prog 9 (plainElem Tryz.prog 3) q I.length D ∧ InD D I ∧ I.Nodup ∧ (∀ s, s ∈ I ↔ Rch T S s) ∧ (∀ x ∈ I, x ∈ keysE T) ∧ Below w.heap.size w w' :=
  reached_anyM base base2 p b T hsh hT u S hSn (fun x hx => by have := hSl x hx; unfold maxLen; omega) w h hu
end Go.Proofs.YtdddcncjmnekcaaGreatDoor
