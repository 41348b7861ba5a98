/- AgreeP, Below, Line. -/
import Derived.Test.YtbnjhfkmdejeaaaRows
import Derived.Lib.OwnKind
import Derived.Lib.SmallJoins
import Derived.Laws.OwnMore
import Derived.OneCell
import Derived.Maps.AppendAt
import Derived.Test.YtbnjhfkmdejeaaaMg1
import Derived.Test.YtbnjhfkmdejeaaaMg4
set_option linter.unnecessarySimpa false

/- Plain: votes by the rules: of what is committed any two stand on one line. -/
set_option linter.unusedSimpArgs false
set_option linter.unusedVariables false
namespace Go.Proofs.Ytbnjhfkmdejeaaa
namespace Pl

def par (P : List Nat) (b : Nat) : Nat := P.getD b 0
def vw (V : List Int) (b : Nat) : Int := V.getD b 0
def nmA (l : List (Bs × Int)) (m : Nat) : Bs := (l.getD m ([], 0)).1
def certA (l : List (Bs × Int)) (vot : List (List Bs)) (b : Nat) : Bool := decide (b = 0) || decide (quoM l ≤ ofM l (vot.getD b []))
/-- Parents are ahead, the root is its own. -/
structure WfP (P : List Nat) (V : List Int) : Prop where
  up : ∀ b, 0 < b → b < P.length → par P b < b
  root : par P 0 = 0
  zero : vw V 0 = 0
abbrev StA := List (List Bs) × List (Int × Int)
def addV (s : StA) (b : Nat) (n : Bs) : List (List Bs) := s.1.set b (s.1.getD b [] ++ [n])
def voteR (V : List Int) (P : List Nat) (r : Int × Int) (b : Nat) : Int × Int × Int := voteF r.1 r.2 (vw V b) (vw V (par P b)) (vw V (par P (par P b)))
/-- A member votes for a block, if the rules let it, or it keeps to none. -/
def voteA (l : List (Bs × Int)) (P : List Nat) (V : List Int) (bad : Bool) (m b : Nat) (s : StA) : StA :=
  if b = 0 then s
  else if bad then (addV s b (nmA l m), s.2)
  else if (voteR V P (s.2.getD m (0, 0)) b).2.2 ≠ 0 ∨ certA l s.1 (par P b) = false then s
  else (addV s b (nmA l m), s.2.set m ((voteR V P (s.2.getD m (0, 0)) b).1, (voteR V P (s.2.getD m (0, 0)) b).2.1))

theorem voteF_good (v l view just back : Int) (h : (voteF v l view just back).2.2 = 0) :
    voteF v l view just back = (view, max l back, 0) ∧ v < view ∧ 1 ≤ view ∧ l ≤ just ∧ 0 ≤ just ∧ just < view := by
  unfold voteF at h ⊢
  split at h
  · rename_i h1; exact absurd h h1
  · rename_i h1
    split at h
    · exact absurd h (by decide)
    · rename_i h2
      rw [if_neg h1, if_neg h2]
      unfold mayF at h1
      simp only [ne_eq, Classical.not_not] at h1
      refine ⟨rfl, ?_⟩
      split at h1
      · omega
      · split at h1
        · omega
        · split at h1 <;> omega

/-- What holds of the votes of those who keep to the rules. -/
structure InvA (l : List (Bs × Int)) (bad : List Bs) (P : List Nat) (V : List Int) (s : StA) : Prop where
  len1 : s.1.length = P.length
  len2 : s.2.length = l.length
  j1 : ∀ m, m < l.length → nmA l m ∉ bad → ∀ b, b < P.length → nmA l m ∈ s.1.getD b [] →
    0 < b ∧ vw V b ≤ (s.2.getD m (0, 0)).1 ∧ 1 ≤ vw V b ∧ vw V (par P b) < vw V b ∧ vw V (par P (par P b)) ≤ (s.2.getD m (0, 0)).2 ∧ certA l s.1 (par P b) = true
  j2 : ∀ m, m < l.length → nmA l m ∉ bad → ∀ b c, b < P.length → c < P.length → nmA l m ∈ s.1.getD b [] → nmA l m ∈ s.1.getD c [] → vw V b = vw V c → b = c
  j3 : ∀ m, m < l.length → nmA l m ∉ bad → ∀ b c, b < P.length → c < P.length → nmA l m ∈ s.1.getD b [] → nmA l m ∈ s.1.getD c [] → vw V b < vw V c → vw V (par P (par P b)) ≤ vw V (par P c)

theorem getD_set (L : List (List Bs)) (b c : Nat) (x : List Bs) (hb : b < L.length) : (L.set b x).getD c [] = if c = b then x else L.getD c [] := by
  rw [List.getD_eq_getElem?_getD, List.getElem?_set]
  by_cases h : b = c
  · subst h; simp [hb]
  · rw [if_neg h, if_neg (fun e => h e.symm), List.getD_eq_getElem?_getD]
theorem getD_set2 (L : List (Int × Int)) (b c : Nat) (x : Int × Int) (hb : b < L.length) : (L.set b x).getD c (0, 0) = if c = b then x else L.getD c (0, 0) := by
  rw [List.getD_eq_getElem?_getD, List.getElem?_set]
  by_cases h : b = c
  · subst h; simp [hb]
  · rw [if_neg h, if_neg (fun e => h e.symm), List.getD_eq_getElem?_getD]
theorem cert_mono {l : List (Bs × Int)} (hc : chkM l = true) {v w : List (List Bs)} (h : ∀ b x, x ∈ v.getD b [] → x ∈ w.getD b []) (b : Nat) (hb : certA l v b = true) : certA l w b = true := by
  unfold certA at *
  simp only [Bool.or_eq_true, decide_eq_true_eq] at *
  rcases hb with hb | hb
  · exact .inl hb
  · have := sum_mono (v.getD b []) (w.getD b []) (h b) l (pow_pos_of hc)
    simp only [ofM, hc, if_true] at *
    exact .inr (by omega)
theorem names_apart {l : List (Bs × Int)} (hc : chkM l = true) {m k : Nat} (hm : m < l.length) (hk : k < l.length) (h : nmA l m = nmA l k) : m = k := by
  simp only [chkM, Bool.and_eq_true, decide_eq_true_eq] at hc
  have hs : (l.map (·.1)).Pairwise (fun x y => x < y) := by
    have := okM_okS l [] (fun _ => true) hc.2
    rw [List.filter_eq_self.2 (fun _ _ => rfl)] at this
    exact (okS_sorted _ [] this).2
  have ha : ∀ i, (hi : i < l.length) → nmA l i = (l.map (·.1))[i]'(by simpa using hi) := fun i hi => by
    unfold nmA
    rw [List.getD_eq_getElem?_getD, List.getElem?_eq_getElem hi]
    simp
  rw [ha m hm, ha k hk] at h
  rcases Nat.lt_trichotomy m k with h1 | h1 | h1
  · have := List.pairwise_iff_getElem.1 hs m k (by simpa using hm) (by simpa using hk) h1
    rw [h] at this
    exact absurd this (List.lt_irrefl _)
  · exact h1
  · have := List.pairwise_iff_getElem.1 hs k m (by simpa using hk) (by simpa using hm) h1
    rw [h] at this
    exact absurd this (List.lt_irrefl _)

theorem addV_mem {s : StA} {b : Nat} (hb : b < s.1.length) (n x : Bs) (c : Nat) : x ∈ (addV s b n).getD c [] ↔ x ∈ s.1.getD c [] ∨ (c = b ∧ x = n) := by
  unfold addV
  rw [getD_set _ _ _ _ hb]
  by_cases h : c = b
  · subst h; simp
  · simp [h]
theorem InvA.vote {l : List (Bs × Int)} (hc : chkM l = true) {bad : List Bs} {P : List Nat} {V : List Int} {s : StA} (h : InvA l bad P V s) (bd : Bool) (m b : Nat) (hm : m < l.length) (hb : b < P.length) (hbd : bd = true ↔ nmA l m ∈ bad) : InvA l bad P V (voteA l P V bd m b s) := by
  unfold voteA
  by_cases h0 : b = 0
  · rw [if_pos h0]; exact h
  · rw [if_neg h0]
    have hbl : b < s.1.length := by rw [h.len1]; exact hb
    have hmono : ∀ c x, x ∈ s.1.getD c [] → x ∈ (addV s b (nmA l m)).getD c [] := fun c x hx => (addV_mem hbl _ x c).2 (.inl hx)
    cases bd
    · have hok : nmA l m ∉ bad := fun h => by have := hbd.2 h; simp at this
      simp only [Bool.false_eq_true, if_false]
      by_cases hv : (voteR V P (s.2.getD m (0, 0)) b).2.2 ≠ 0 ∨ certA l s.1 (par P b) = false
      · rw [if_pos hv]; exact h
      · rw [if_neg hv]
        have hml : m < s.2.length := by rw [h.len2]; exact hm
        have hv1 : (voteR V P (s.2.getD m (0, 0)) b).2.2 = 0 := by
          rcases Classical.em ((voteR V P (s.2.getD m (0, 0)) b).2.2 = 0) with h | h
          · exact h
          · exact absurd (.inl h) hv
        have hv2 : certA l s.1 (par P b) = true := by
          cases hq : certA l s.1 (par P b)
          · exact absurd (.inr hq) hv
          · rfl
        unfold voteR at hv1 ⊢
        obtain ⟨e1, e2, e3, e4, e5, e6⟩ := voteF_good _ _ _ _ _ hv1
        rw [e1]
        simp only
        generalize hr : s.2.getD m (0, 0) = r at *
        refine ⟨by simp [addV, h.len1], by simp [h.len2], ?_, ?_, ?_⟩
        · intro k hk hkb c hcP hin
          rcases (addV_mem hbl _ _ c).1 hin with hin | ⟨rfl, hn⟩
          · obtain ⟨q1, q2, q3, q4, q5, q6⟩ := h.j1 k hk hkb c hcP hin
            refine ⟨q1, ?_, q3, q4, ?_, cert_mono hc hmono _ q6⟩
            · rw [getD_set2 _ _ _ _ hml]
              by_cases e : k = m
              · subst e; rw [if_pos rfl]; rw [hr] at q2; simp only; omega
              · rw [if_neg e]; exact q2
            · rw [getD_set2 _ _ _ _ hml]
              by_cases e : k = m
              · subst e; rw [if_pos rfl]; rw [hr] at q5; simp only; omega
              · rw [if_neg e]; exact q5
          · have e : k = m := names_apart hc hk hm hn
            subst e
            rw [getD_set2 _ _ _ _ hml, if_pos rfl]
            exact ⟨by omega, Int.le_refl _, e3, e6, by simp only; omega, cert_mono hc hmono _ hv2⟩
        · intro k hk hkb c d hcP hdP hinc hind hvw
          rcases (addV_mem hbl _ _ c).1 hinc with hin1 | ⟨rfl, hn⟩
          · rcases (addV_mem hbl _ _ d).1 hind with hin2 | ⟨rfl, hn⟩
            · exact h.j2 k hk hkb c d hcP hdP hin1 hin2 hvw
            · have e : k = m := names_apart hc hk hm hn
              subst e
              have := (h.j1 k hk hkb c hcP hin1).2.1
              rw [hr] at this
              omega
          · have e : k = m := names_apart hc hk hm hn
            subst e
            rcases (addV_mem hbl _ _ d).1 hind with hin2 | ⟨rfl, _⟩
            · have := (h.j1 k hk hkb d hdP hin2).2.1
              rw [hr] at this
              omega
            · rfl
        · intro k hk hkb c d hcP hdP hinc hind hvw
          rcases (addV_mem hbl _ _ c).1 hinc with hin1 | ⟨rfl, hn⟩
          · rcases (addV_mem hbl _ _ d).1 hind with hin2 | ⟨rfl, hn⟩
            · exact h.j3 k hk hkb c d hcP hdP hin1 hin2 hvw
            · have e : k = m := names_apart hc hk hm hn
              subst e
              have := (h.j1 k hk hkb c hcP hin1).2.2.2.2.1
              rw [hr] at this
              omega
          · have e : k = m := names_apart hc hk hm hn
            subst e
            rcases (addV_mem hbl _ _ d).1 hind with hin2 | ⟨rfl, _⟩
            · have := (h.j1 k hk hkb d hdP hin2).2.1
              rw [hr] at this
              omega
            · omega
    · have hbad : nmA l m ∈ bad := hbd.1 rfl
      simp only [if_true]
      have hold : ∀ k, nmA l k ∉ bad → ∀ c, nmA l k ∈ (addV s b (nmA l m)).getD c [] → nmA l k ∈ s.1.getD c [] := by
        intro k hkb c hin
        rcases (addV_mem hbl _ _ c).1 hin with hin | ⟨_, hn⟩
        · exact hin
        · exact absurd (hn ▸ hbad) hkb
      refine ⟨by simp [addV, h.len1], h.len2, ?_, ?_, ?_⟩
      · intro k hk hkb c hcP hin
        obtain ⟨q1, q2, q3, q4, q5, q6⟩ := h.j1 k hk hkb c hcP (hold k hkb c hin)
        exact ⟨q1, q2, q3, q4, q5, cert_mono hc hmono _ q6⟩
      · intro k hk hkb c d hcP hdP hinc hind
        exact h.j2 k hk hkb c d hcP hdP (hold k hkb c hinc) (hold k hkb d hind)
      · intro k hk hkb c d hcP hdP hinc hind
        exact h.j3 k hk hkb c d hcP hdP (hold k hkb c hinc) (hold k hkb d hind)

/-- a stands on the line up to b. -/
inductive Anc (P : List Nat) : Nat → Nat → Prop
  | refl (a : Nat) : Anc P a a
  | step {a b : Nat} : 0 < b → Anc P a (par P b) → Anc P a b
theorem anc_zero {P : List Nat} {V : List Int} (hP : WfP P V) : ∀ b, b < P.length → Anc P 0 b := by
  intro b
  induction b using Nat.strongRecOn with
  | _ b ih =>
    intro hb
    rcases Nat.eq_zero_or_pos b with rfl | h
    · exact .refl 0
    · have := hP.up b h hb
      exact .step h (ih _ this (by omega))
theorem anc_le {P : List Nat} {V : List Int} (hP : WfP P V) {a b : Nat} (h : Anc P a b) : b < P.length → a ≤ b := by
  induction h with
  | refl => intro _; exact Nat.le_refl _
  | step hpos _ ih =>
    rename_i b _
    intro hb
    have := hP.up b hpos hb
    have := ih (by omega)
    omega

section
variable {l : List (Bs × Int)} {bad : List Bs} {P : List Nat} {V : List Int} {s : StA}
/-- One of those who keep to the rules is among both quorums. -/
theorem meet2 (hc : chkM l = true) (hbad : ofM l bad ≤ mostM l) {b c : Nat} (hb : certA l s.1 b = true) (hb0 : b ≠ 0) (hcc : certA l s.1 c = true) (hc0 : c ≠ 0) :
    ∃ m, m < l.length ∧ nmA l m ∉ bad ∧ nmA l m ∈ s.1.getD b [] ∧ nmA l m ∈ s.1.getD c [] := by
  unfold certA at hb hcc
  simp only [Bool.or_eq_true, decide_eq_true_eq] at hb hcc
  have h1 := hb.resolve_left hb0
  have h2 := hcc.resolve_left hc0
  have hB := bothP_is (s.1.getD b []) (s.1.getD c [])
  have h3 := ((over_law hc hB).2.2 h1 h2).1
  rcases Classical.em (∃ x ∈ l, x.1 ∈ bothP (s.1.getD b []) (s.1.getD c []) ∧ x.1 ∉ bad) with ⟨x, hx, hxb, hxn⟩ | hno
  · obtain ⟨m, hm, rfl⟩ := List.getElem_of_mem hx
    have e : nmA l m = l[m].1 := by unfold nmA; rw [List.getD_eq_getElem?_getD, List.getElem?_eq_getElem hm]; rfl
    rw [← e] at hxb hxn
    obtain ⟨k1, k2⟩ := (hB.2 _).1 hxb
    exact ⟨m, hm, hxn, k1, k2⟩
  · have := sum_mono2 (bothP (s.1.getD b []) (s.1.getD c [])) bad l (pow_pos_of hc) (fun x hx hxb => by
      rcases Classical.em (x.1 ∈ bad) with h | h
      · exact h
      · exact absurd ⟨x, hx, hxb, h⟩ hno)
    simp only [ofM, hc, if_true] at *
    omega
/-- A block that is committed: a child, and a child's child with a quorum, of three views that follow one another. -/
structure DoneA (l : List (Bs × Int)) (P : List Nat) (V : List Int) (vot : List (List Bs)) (x b : Nat) : Prop where
  lt : b < P.length
  one : par P b < b
  two : par P (par P b) < par P b
  x_eq : x = par P (par P b)
  cert : certA l vot b = true
  three : 0 ≤ vw V x ∧ vw V (par P b) = vw V x + 1 ∧ vw V b = vw V x + 2
theorem DoneA.certs (hc : chkM l = true) (hbad : ofM l bad ≤ mostM l) (hI : InvA l bad P V s) {x b : Nat} (h : DoneA l P V s.1 x b) :
    certA l s.1 (par P b) = true ∧ par P b ≠ 0 ∧ certA l s.1 x = true ∧ (x ≠ 0 → 1 ≤ vw V x) ∧ x < P.length := by
  have h1 := h.one
  have h2 := h.two
  have h3 := h.lt
  obtain ⟨m, hm, hmb, hin, _⟩ := meet2 (s := s) hc hbad h.cert (by omega) h.cert (by omega)
  have c1 := (hI.j1 m hm hmb b h.lt hin).2.2.2.2.2
  obtain ⟨m2, hm2, hmb2, hin2, _⟩ := meet2 (s := s) hc hbad c1 (by omega) c1 (by omega)
  have c2 := (hI.j1 m2 hm2 hmb2 _ (by omega) hin2).2.2.2.2.2
  rw [← h.x_eq] at c2 h2
  refine ⟨c1, by omega, c2, fun hx => ?_, by omega⟩
  obtain ⟨m3, hm3, hmb3, hin3, _⟩ := meet2 (s := s) hc hbad c2 hx c2 hx
  exact (hI.j1 m3 hm3 hmb3 x (by omega) hin3).2.2.1
theorem above_done (hc : chkM l = true) (hbad : ofM l bad ≤ mostM l) (hP : WfP P V) (hI : InvA l bad P V s) {x b : Nat} (h : DoneA l P V s.1 x b) :
    ∀ c, c < P.length → c ≠ 0 → certA l s.1 c = true → vw V x ≤ vw V c → Anc P x c := by
  obtain ⟨c1, n1, c2, hpos, hxl⟩ := h.certs hc hbad hI
  have h1 := h.one
  have h2 := h.two
  have h3 := h.lt
  obtain ⟨t1, t2, t3⟩ := h.three
  intro c
  induction c using Nat.strongRecOn with
  | _ c ih =>
    intro hcl hc0 hcc hvw
    by_cases hx0 : x = 0
    · subst hx0; exact anc_zero hP c hcl
    · by_cases e0 : vw V c = vw V x
      · obtain ⟨m, hm, hmb, i1, i2⟩ := meet2 (s := s) hc hbad c2 hx0 hcc hc0
        have := hI.j2 m hm hmb x c hxl hcl i1 i2 e0.symm
        subst this
        exact .refl _
      · by_cases e1 : vw V c = vw V x + 1
        · obtain ⟨m, hm, hmb, i1, i2⟩ := meet2 (s := s) hc hbad c1 n1 hcc hc0
          have := hI.j2 m hm hmb _ c (by omega) hcl i1 i2 (by omega)
          subst this
          exact .step (by omega) (by rw [h.x_eq]; exact .refl _)
        · obtain ⟨m, hm, hmb, i1, i2⟩ := meet2 (s := s) hc hbad h.cert (by omega) hcc hc0
          by_cases e2 : vw V c = vw V x + 2
          · have := hI.j2 m hm hmb b c h3 hcl i1 i2 (by omega)
            subst this
            exact .step (by omega) (.step (by omega) (by rw [h.x_eq]; exact .refl _))
          · have j3 := hI.j3 m hm hmb b c h3 hcl i1 i2 (by omega)
            rw [← h.x_eq] at j3
            obtain ⟨q1, _, _, _, _, q6⟩ := hI.j1 m hm hmb c hcl i2
            have hup := hP.up c q1 hcl
            by_cases hp0 : par P c = 0
            · rw [hp0, hP.zero] at j3
              have := hpos hx0
              omega
            · exact .step q1 (ih _ hup (by omega) hp0 q6 j3)
theorem agree_law (hc : chkM l = true) (hbad : ofM l bad ≤ mostM l) (hP : WfP P V) (hI : InvA l bad P V s) {x y b d : Nat} (hx : DoneA l P V s.1 x b) (hy : DoneA l P V s.1 y d) : Anc P (min x y) (max x y) := by
  have key : ∀ {x y b d : Nat}, DoneA l P V s.1 x b → DoneA l P V s.1 y d → vw V x ≤ vw V y → Anc P x y := by
    intro x y b d hx hy hv
    obtain ⟨_, _, cy, _, hyl⟩ := hy.certs hc hbad hI
    by_cases hy0 : y = 0
    · subst hy0
      rw [hP.zero] at hv
      obtain ⟨_, _, _, hpos, _⟩ := hx.certs hc hbad hI
      by_cases hx0 : x = 0
      · subst hx0; exact .refl 0
      · have := hpos hx0; omega
    · exact above_done hc hbad hP hI hx y hyl hy0 cy hv
  obtain ⟨_, _, _, _, hxl⟩ := hx.certs hc hbad hI
  obtain ⟨_, _, _, _, hyl⟩ := hy.certs hc hbad hI
  rcases Int.le_total (vw V x) (vw V y) with h | h
  · have ha := key hx hy h
    have := anc_le hP ha hyl
    rw [Nat.min_eq_left this, Nat.max_eq_right this]
    exact ha
  · have ha := key hy hx h
    have := anc_le hP ha hxl
    rw [Nat.min_eq_right this, Nat.max_eq_left this]
    exact ha
end
end Pl
end Go.Proofs.Ytbnjhfkmdejeaaa

/- A number from 0 on, below n: the walk of Below. -/
set_option linter.unusedSimpArgs false
set_option linter.unusedVariables false
namespace Go.Proofs.Ytbnjhfkmdejeaaa
open Go.RowKit

theorem tmod_small (x n : Int) (h : 0 < n) : -n < x.tmod n ∧ x.tmod n < n := by
  rw [Int.tmod_eq_emod]
  have h1 := Int.emod_nonneg x (Int.ne_of_gt h)
  have h2 := Int.emod_lt_of_pos x h
  split <;> omega
theorem tmod_twice (x n : Int) (h : 0 < n) : (x.tmod n + n).tmod n = x % n := by
  have hs := tmod_small x n h
  rw [Int.tmod_eq_emod_of_nonneg (by omega), Int.add_emod_right, Int.tmod_eq_emod]
  split
  · simp
  · rw [show (x % n - (n.natAbs : Int)) = x % n + n * (-1) from by omega, Int.add_mul_emod_self_left, Int.emod_emod]
/-- x % n as a number of ours. -/
def modN (x : Int) (n : Nat) : Nat := (x % (n : Int)).toNat
theorem modN_eq (x : Int) (n : Nat) (h : 0 < n) : ((modN x n : Nat) : Int) = x % (n : Int) := by
  unfold modN
  rw [Int.toNat_of_nonneg (Int.emod_nonneg x (by omega))]
theorem modN_lt (x : Int) (n : Nat) (h : 0 < n) : modN x n < n := by
  have := modN_eq x n h
  have h2 := Int.emod_lt_of_pos x (show (0 : Int) < (n : Int) from by omega)
  omega
set_option maxRecDepth 100000 in
theorem below_any (x : Int) (n : Nat) (h0 : 0 < n) (hn : n ≤ 1000000000) (w : World) :
    Calls Try.prog 8 #[.int .i64 (x), .int .i64 ((n : Int))] w fun e w' => e = .returned (.int .i64 ((modN x n : Int))) ∧ w' = w := by
  have h1 := tmod_small x n (by omega)
  have h2 := tmod_twice x n (by omega)
  rw [← modN_eq x n h0] at h2
  have z : ((n : Int) == 0) = false := by simp; omega
  have z2 : (n : Int) ≠ 0 := by omega
  have w1 : IntKind.i64.wrap (x.tmod n + n) = x.tmod n + n := by rw [IntKind.wrap_i64]; omega
  have hm := modN_lt x n h0
  have w2 : IntKind.i64.wrap (x.tmod n) = x.tmod n := by rw [IntKind.wrap_i64]; omega
  have w3 : IntKind.i64.wrap ((modN x n : Nat) : Int) = ((modN x n : Nat) : Int) := by rw [IntKind.wrap_i64]; omega
  go_enter Try.func8, Try.ntmps8
  go_wp2_with fail
  all_goals (go_ret; exact ⟨by simp [w1, w2, w3, h2], rfl⟩)
end Go.Proofs.Ytbnjhfkmdejeaaa

/- What lies behind a line of votes: rows of parents, views, voters and rules. -/
set_option linter.unusedSimpArgs false
set_option linter.unusedVariables false
namespace Go.Proofs.Ytbnjhfkmdejeaaa
open Go.RowKit Pl

def iv (l : List Int) : List Value := l.map (Value.int .i64)
def rv : List (Int × Int) → List Value
  | [] => []
  | x :: r => .int .i64 (x.1) :: .int .i64 (x.2) :: rv r
theorem iv_len (l : List Int) : (iv l).length = l.length := by simp [iv]
theorem rv_len : ∀ l : List (Int × Int), (rv l).length = l.length * 2
  | [] => rfl
  | x :: r => by rw [rv, List.length_cons, List.length_cons, rv_len r, List.length_cons]; omega
theorem rv_at : ∀ (l : List (Int × Int)) (i : Nat), i < l.length → (rv l)[i * 2]? = some (.int .i64 ((l.getD i (0, 0)).1)) ∧ (rv l)[i * 2 + 1]? = some (.int .i64 ((l.getD i (0, 0)).2))
  | x :: r, 0, _ => ⟨rfl, rfl⟩
  | x :: r, i + 1, h => by
    have := rv_at r i (by simpa using h)
    rw [show (i + 1) * 2 = i * 2 + 1 + 1 from by omega]
    exact this
theorem rv_set : ∀ (l : List (Int × Int)) (i : Nat) (a b : Int), i < l.length → ((rv l).set (i * 2) (.int .i64 (a))).set (i * 2 + 1) (.int .i64 (b)) = rv (l.set i (a, b))
  | x :: r, 0, a, b, _ => rfl
  | x :: r, i + 1, a, b, h => by
    have := rv_set r i a b (by simpa using h)
    rw [show (i + 1) * 2 = i * 2 + 1 + 1 from by omega]
    simp only [rv, List.set_cons_succ]
    rw [this]
theorem rv_zero : ∀ n : Nat, rv (List.replicate n (0, 0)) = List.replicate (n * 2) (.int .i64 (0))
  | 0 => rfl
  | n + 1 => by rw [List.replicate_succ, rv, rv_zero n, show (n + 1) * 2 = n * 2 + 1 + 1 from by omega, List.replicate_succ, List.replicate_succ]
abbrev nilS : Value := .slice none 0 0
def IRow (w : World) (base : Nat) (v : Value) (l : List Int) : Prop := w.ownsRow base 3 1 v l.length (iv l)
def RRow (w : World) (base : Nat) (v : Value) (l : List (Int × Int)) : Prop := w.ownsRow base 49 2 v l.length (rv l)
def TRow (w : World) (base : Nat) (v : Value) (ts : List Value) : Prop := w.ownsRow base 23 1 v ts.length ts

section
variable {w w' : World} {b b1 b2 s s1 s2 n m : Nat} {e e1 e2 : TypeId} {u v : Value} {xs ys : List Value}
theorem kinds_ne (h1 : w.ownsRow b1 e1 s1 u n xs) (h2 : w.ownsRow b2 e2 s2 v m ys) (hne : e1 ≠ e2) : ∀ k, u.ownBlock = some k → v.ownBlock ≠ some k := by
  intro k hu hv
  obtain ⟨c, f, q⟩ := Lib.ownsRow_kind h1 k hu
  obtain ⟨c2, f2, q2⟩ := Lib.ownsRow_kind h2 k hv
  rw [q] at q2
  injection q2 with q2
  injection q2 with _ q2 _
  exact hne q2
theorem row_kept (h : w.ownsRow b e s v n xs) (hb : ∀ k, v.ownBlock = some k → w'.heap[k]? = w.heap[k]?) : w'.ownsRow b e s v n xs := by
  refine ⟨h.1, h.2.imp id ?_⟩
  rintro ⟨g, cap, cur, hv, h1, h2, h3⟩
  subst hv
  exact ⟨g, cap, cur, rfl, h1, (hb g rfl).trans h2, h3⟩
theorem row_mod {l : List Nat} (h : w.ownsRow b e s v n xs) (hm : Mod l w w') (hn : ∀ k, v.ownBlock = some k → k ∉ l) : w'.ownsRow b e s v n xs :=
  row_kept h (fun k hk => hm.block k (h.lt k hk).2 (hn k hk))
theorem row_below (h : w.ownsRow b e s v n xs) (hb : Below w.heap.size w w') : w'.ownsRow b e s v n xs :=
  row_kept h (fun k hk => hb.block k (h.lt k hk).2)
theorem Mod.of_grown {r : Option Nat} (h : w.grownBy w' r) : Mod r.toList w w' :=
  ⟨h.os, h.tape, h.output, h.size, fun k hk hn => h.block k hk (fun e => hn (by rw [← e]; simp))⟩
theorem row_open (h : w.ownsRow b e s v n xs) (hn : 0 < n) : ∃ g cap, v = .slice (some ⟨g, 0, none⟩) n cap ∧ b ≤ g ∧ g < w.heap.size ∧ n ≤ cap ∧ cap ≤ maxLen ∧ (∀ j, j < n * s → w.cell? ⟨g, j, none⟩ = xs[j]?) ∧ (∀ o, w.frozen? ⟨g, o, none⟩ = false) := by
  rcases h.2 with ⟨_, h0⟩ | ⟨g, cap, cur, rfl, h1, h2, h3, h4, h5, h6⟩
  · omega
  · refine ⟨g, cap, rfl, h1, (h.lt g rfl).2, h3, h4, fun j hj => World.ownsRow.cellAt h j hj, fun o => World.ownsRow.frozenAt h o⟩
theorem row_form (h : w.ownsRow b e s v n xs) : ∃ a c, v = .slice a n c := by
  rcases h.2 with ⟨h1, rfl⟩ | ⟨g, cap, cur, rfl, _⟩
  · exact ⟨none, 0, h1⟩
  · exact ⟨_, cap, rfl⟩
end
section
variable {o : Oper} {a : Act} {w : World} {Q : Exit → Act → World → Prop}
/-- append(v, x) of one element of one cell: where the new slice lies, too. -/
theorem wp_app1 {K : Act → World → Prop} (s x : Operand) (T e : TypeId) (z : Value) (by0 : Nat) (hT : Try.prog.underlying T = some (.slice e))
    (hinfo : (Try.prog.info? e).map (fun i => (i.zero, i.size, i.bytes)) = some (some z, 1, by0)) (hz : z.cells.size = 1) (hby : by0 ≤ 24)
    (ho : o.op = .call { callee := .builtin .append, args := #[s, x], argTypes := #[T, T] })
    (base n : Nat) (v u : Value) (xs : List Value) (hs : a.eval s = v) (hown : w.ownsRow base e 1 v n xs)
    (q : Nat) (hx : a.eval x = .slice (some ⟨q, 0, none⟩) 1 1) (hq : w.cell? ⟨q, 0, none⟩ = some u) (hu : u.oneCell' = true)
    (hlen : n ≤ 1000000) (hbase : base ≤ w.heap.size)
    (h : ∀ v' w', w'.ownsRow base e 1 v' (n + 1) (xs ++ [u]) → w.grownBy w' v.ownBlock → (v'.ownBlock = v.ownBlock ∨ v'.ownBlock = some w.heap.size) → K (a.put o.dst v') w') : o.wp Try.prog a w K Q := by
  obtain ⟨i0, hi, hz0, hz1, hz2⟩ := info_parts hinfo
  obtain ⟨v', w', hr, k2, k3, _, k5⟩ := run_append_own_at (P := Try.prog) w base T o.type e i0 z 1 by0 hT hi hz0 hz1 hz2 hz (by decide) v n xs hown ⟨q, 0, none⟩ 1 1 [u] rfl
    (fun j y hj => by
      cases j with
      | zero => simp at hj; subst hj; exact hq
      | succ j => simp at hj) (by simpa using hu) (by unfold maxLen; omega)
    (by have : (n + 1) * by0 ≤ (n + 1) * 24 := Nat.mul_le_mul_left _ hby; omega) hbase
  unfold Oper.wp execOp
  simp only [ho, resolve, invoke, builtin, Sem.run_bind, Sem.run_pure, Result.andThen_ok, List.map_toArray, List.map_cons, List.map_nil, hs, hx, hr]
  exact h v' w' k2 k3 k5
end

/-- A line of votes. -/
structure LineV (w : World) (base p : Nat) (sv pv vv tv rr : Value) (ts : List Value) (P V : List Int) (T : List (List Bs)) (R : List (Int × Int)) : Prop where
  hp : base ≤ p
  blk : Blk w p #[sv, pv, vv, tv, rr]
  prow : IRow w base pv P
  vrow : IRow w base vv V
  trow : TRow w base tv ts
  rrow : RRow w base rr R
  tl : ts.length = T.length
  each : ∀ i, i < T.length → SRow w base (ts.getD i nilS) (T.getD i [])
  np : ∀ v, v ∈ pv :: vv :: tv :: rr :: ts → v.ownBlock ≠ some p
  pvv : ∀ k, pv.ownBlock = some k → vv.ownBlock ≠ some k
  apart : ∀ i j k, i < ts.length → j < ts.length → i ≠ j → (ts.getD i nilS).ownBlock = some k → (ts.getD j nilS).ownBlock ≠ some k
section
variable {w w1 w' : World} {base p : Nat} {sv pv vv tv rr : Value} {ts : List Value} {P V : List Int} {T : List (List Bs)} {R : List (Int × Int)}
theorem ts_mem {i : Nat} (h : i < ts.length) : ts.getD i nilS ∈ ts := by
  rw [List.getD_eq_getElem?_getD, List.getElem?_eq_getElem h]
  exact List.getElem_mem _
theorem LineV.keep (h : LineV w base p sv pv vv tv rr ts P V T R) (hb : Below w.heap.size w w') : LineV w' base p sv pv vv tv rr ts P V T R :=
  ⟨h.hp, h.blk.keep hb, row_below h.prow hb, row_below h.vrow hb, row_below h.trow hb, row_below h.rrow hb, h.tl, fun i hi => (h.each i hi).keep hb, h.np, h.pvv, h.apart⟩
theorem LineV.own_ne (h : LineV w base p sv pv vv tv rr ts P V T R) {v : Value} (hv : v ∈ pv :: vv :: tv :: rr :: ts) : ∀ k, v.ownBlock = some k → k ≠ p := fun k hk e => h.np v hv (by rw [hk, e])
theorem set_mod {p i : Nat} {v : Value} {l : List Nat} (hm : Mod l w w1) : Mod (p :: l) w (w1.setCell ⟨p, i, none⟩ v) :=
  Mod.setCell (hm.sub (fun x hx => .inl (.tail _ hx))) (.inl (by simp)) v
/-- One of its rows has grown, and its cell is set. -/
theorem LineV.par_app {pv' : Value} {P' : List Int} (h : LineV w base p sv pv vv tv rr ts P V T R) (hr : IRow w1 base pv' P') (hg : w.grownBy w1 pv.ownBlock) (ho : pv'.ownBlock = pv.ownBlock ∨ pv'.ownBlock = some w.heap.size) :
    LineV (w1.setCell ⟨p, 1, none⟩ pv') base p sv pv' vv tv rr ts P' V T R := by
  have hm := set_mod (p := p) (i := 1) (v := pv') (Mod.of_grown hg)
  have hpn : pv'.ownBlock ≠ some p := by
    rcases ho with ho | ho
    · rw [ho]; exact h.np pv (by simp)
    · rw [ho]; have := h.blk.lt; intro e; injection e with e; omega
  have hb1 : Blk w1 p #[sv, pv, vv, tv, rr] := h.blk.of_block (hg.block p h.blk.lt (fun e => h.np pv (by simp) e.symm)) hg.size
  have hl : ∀ v, v ∈ vv :: tv :: rr :: ts → (∀ k, pv.ownBlock = some k → v.ownBlock ≠ some k) → ∀ k, v.ownBlock = some k → k ∉ p :: pv.ownBlock.toList := by
    intro v hv hne k hk hin
    rcases List.mem_cons.1 hin with e | hin
    · exact h.own_ne (v := v) (.tail _ hv) k hk e
    · exact hne k (by simpa using hin) hk
  refine ⟨h.hp, by simpa using hb1.set 1 pv', ownsRow_setCell_other hr hpn _, row_mod h.vrow hm (hl vv (by simp) h.pvv), row_mod h.trow hm (hl tv (by simp) (kinds_ne h.prow h.trow (by decide))), row_mod h.rrow hm (hl rr (by simp) (kinds_ne h.prow h.rrow (by decide))), h.tl, fun i hi => ?_, fun v hv => ?_, fun k hk => ?_, h.apart⟩
  · have hi2 : i < ts.length := by rw [h.tl]; exact hi
    exact row_mod (h.each i hi) hm (hl _ (.tail _ (.tail _ (.tail _ (ts_mem hi2)))) (kinds_ne h.prow (h.each i hi) (by decide)))
  · rcases List.mem_cons.1 hv with rfl | hv
    · exact hpn
    · exact h.np v (.tail _ hv)
  · rcases ho with ho | ho
    · exact h.pvv k (by rw [← ho]; exact hk)
    · rw [ho] at hk
      injection hk with hk
      intro e
      have := (h.vrow.lt k e).2
      omega
theorem LineV.view_app {vv' : Value} {V' : List Int} (h : LineV w base p sv pv vv tv rr ts P V T R) (hr : IRow w1 base vv' V') (hg : w.grownBy w1 vv.ownBlock) (ho : vv'.ownBlock = vv.ownBlock ∨ vv'.ownBlock = some w.heap.size) :
    LineV (w1.setCell ⟨p, 2, none⟩ vv') base p sv pv vv' tv rr ts P V' T R := by
  have hm := set_mod (p := p) (i := 2) (v := vv') (Mod.of_grown hg)
  have hpn : vv'.ownBlock ≠ some p := by
    rcases ho with ho | ho
    · rw [ho]; exact h.np vv (by simp)
    · rw [ho]; have := h.blk.lt; intro e; injection e with e; omega
  have hb1 : Blk w1 p #[sv, pv, vv, tv, rr] := h.blk.of_block (hg.block p h.blk.lt (fun e => h.np vv (by simp) e.symm)) hg.size
  have hl : ∀ v, v ∈ pv :: vv :: tv :: rr :: ts → (∀ k, vv.ownBlock = some k → v.ownBlock ≠ some k) → ∀ k, v.ownBlock = some k → k ∉ p :: vv.ownBlock.toList := by
    intro v hv hne k hk hin
    rcases List.mem_cons.1 hin with e | hin
    · exact h.own_ne (v := v) hv k hk e
    · exact hne k (by simpa using hin) hk
  refine ⟨h.hp, by simpa using hb1.set 2 vv', row_mod h.prow hm (hl pv (by simp) (fun k e1 e2 => h.pvv k e2 e1)), ownsRow_setCell_other hr hpn _, row_mod h.trow hm (hl tv (by simp) (kinds_ne h.vrow h.trow (by decide))), row_mod h.rrow hm (hl rr (by simp) (kinds_ne h.vrow h.rrow (by decide))), h.tl, fun i hi => ?_, fun v hv => ?_, fun k hk => ?_, h.apart⟩
  · have hi2 : i < ts.length := by rw [h.tl]; exact hi
    exact row_mod (h.each i hi) hm (hl _ (.tail _ (.tail _ (.tail _ (.tail _ (ts_mem hi2))))) (kinds_ne h.vrow (h.each i hi) (by decide)))
  · simp only [List.mem_cons] at hv
    rcases hv with rfl | rfl | hv
    · exact h.np _ (by simp)
    · exact hpn
    · exact h.np v (by simp only [List.mem_cons]; exact .inr (.inr hv))
  · intro e
    rcases ho with ho | ho
    · exact h.pvv k hk (by rw [← ho]; exact e)
    · rw [ho] at e
      injection e with e
      have := (h.prow.lt k hk).2
      omega
theorem LineV.vot_app {tv' : Value} (h : LineV w base p sv pv vv tv rr ts P V T R) (hr : TRow w1 base tv' (ts ++ [nilS])) (hg : w.grownBy w1 tv.ownBlock) (ho : tv'.ownBlock = tv.ownBlock ∨ tv'.ownBlock = some w.heap.size) :
    LineV (w1.setCell ⟨p, 3, none⟩ tv') base p sv pv vv tv' rr (ts ++ [nilS]) P V (T ++ [[]]) R := by
  have hm := set_mod (p := p) (i := 3) (v := tv') (Mod.of_grown hg)
  have hpn : tv'.ownBlock ≠ some p := by
    rcases ho with ho | ho
    · rw [ho]; exact h.np tv (by simp)
    · rw [ho]; have := h.blk.lt; intro e; injection e with e; omega
  have hb1 : Blk w1 p #[sv, pv, vv, tv, rr] := h.blk.of_block (hg.block p h.blk.lt (fun e => h.np tv (by simp) e.symm)) hg.size
  have hl : ∀ v, v ∈ pv :: vv :: tv :: rr :: ts → (∀ k, tv.ownBlock = some k → v.ownBlock ≠ some k) → ∀ k, v.ownBlock = some k → k ∉ p :: tv.ownBlock.toList := by
    intro v hv hne k hk hin
    rcases List.mem_cons.1 hin with e | hin
    · exact h.own_ne (v := v) hv k hk e
    · exact hne k (by simpa using hin) hk
  have hget : ∀ i, i < ts.length → (ts ++ [nilS]).getD i nilS = ts.getD i nilS := fun i hi => by
    rw [List.getD_eq_getElem?_getD, List.getD_eq_getElem?_getD, List.getElem?_append_left hi]
  have hlast : (ts ++ [nilS]).getD ts.length nilS = nilS := by simp
  refine ⟨h.hp, by simpa using hb1.set 3 tv', row_mod h.prow hm (hl pv (by simp) (kinds_ne h.trow h.prow (by decide))), row_mod h.vrow hm (hl vv (by simp) (kinds_ne h.trow h.vrow (by decide))), ownsRow_setCell_other hr hpn _, row_mod h.rrow hm (hl rr (by simp) (kinds_ne h.trow h.rrow (by decide))), by simp [h.tl], fun i hi => ?_, fun v hv => ?_, h.pvv, fun i j k hi hj hij => ?_⟩
  · by_cases hi2 : i < ts.length
    · have hiT : i < T.length := by rw [← h.tl]; exact hi2
      rw [hget i hi2, show List.getD (T ++ [([] : List Bs)]) i [] = T.getD i [] from by rw [List.getD_eq_getElem?_getD, List.getD_eq_getElem?_getD, List.getElem?_append_left hiT]]
      exact row_mod (h.each i hiT) hm (hl _ (.tail _ (.tail _ (.tail _ (.tail _ (ts_mem hi2))))) (kinds_ne h.trow (h.each i hiT) (by decide)))
    · have e : i = ts.length := by have h1 := h.tl; simp at hi; omega
      subst e
      rw [hlast, show List.getD (T ++ [([] : List Bs)]) ts.length [] = [] from by rw [h.tl]; simp]
      exact SRow.nil _ _
  · simp only [List.mem_cons, List.mem_append, List.not_mem_nil, or_false] at hv
    rcases hv with rfl | rfl | rfl | rfl | hv | rfl
    · exact h.np _ (by simp)
    · exact h.np _ (by simp)
    · exact hpn
    · exact h.np _ (by simp)
    · exact h.np v (by simp [hv])
    · intro e; cases e
  · intro hik
    simp only [List.length_append, List.length_cons, List.length_nil] at hi hj
    by_cases hi2 : i < ts.length
    · rw [hget i hi2] at hik
      by_cases hj2 : j < ts.length
      · rw [hget j hj2]; exact h.apart i j k hi2 hj2 hij hik
      · rw [show j = ts.length from by omega, hlast]; intro e; cases e
    · rw [show i = ts.length from by omega, hlast] at hik; cases hik
/-- A block's voters have grown. -/
theorem LineV.voter_app {t' : Value} {L' : List Bs} {b g cap : Nat} (h : LineV w base p sv pv vv (.slice (some ⟨g, 0, none⟩) ts.length cap) rr ts P V T R) (hb : b < T.length) (hr : SRow w1 base t' L') (hg : w.grownBy w1 (ts.getD b nilS).ownBlock) (ho : t'.ownBlock = (ts.getD b nilS).ownBlock ∨ t'.ownBlock = some w.heap.size) :
    LineV (w1.setCell ⟨g, b, none⟩ t') base p sv pv vv (.slice (some ⟨g, 0, none⟩) ts.length cap) rr (ts.set b t') P V (T.set b L') R := by
  have hbt : b < ts.length := by rw [h.tl]; exact hb
  have hm := set_mod (p := g) (i := b) (v := t') (Mod.of_grown hg)
  have hgt := h.trow.lt g rfl
  have hgp : g ≠ p := fun e => h.np (.slice (some ⟨g, 0, none⟩) ts.length cap) (by simp) (by rw [← e]; rfl)
  have htb := ts_mem hbt
  have hin : ts.getD b nilS ∈ pv :: vv :: .slice (some ⟨g, 0, none⟩) ts.length cap :: rr :: ts := .tail _ (.tail _ (.tail _ (.tail _ htb)))
  have hpn : t'.ownBlock ≠ some p := by
    rcases ho with ho | ho
    · rw [ho]; exact h.np _ hin
    · rw [ho]; have := h.blk.lt; intro e; injection e with e; omega
  have htg : ∀ k, (ts.getD b nilS).ownBlock = some k → k ≠ g := fun k hk e => kinds_ne h.trow (h.each b hb) (by decide) g rfl (by rw [hk, e])
  have hl : ∀ v : Value, (∀ k, v.ownBlock = some k → k ≠ g) → (∀ k, (ts.getD b nilS).ownBlock = some k → v.ownBlock ≠ some k) → ∀ k, v.ownBlock = some k → k ∉ g :: (ts.getD b nilS).ownBlock.toList := by
    intro v hv hne k hk hin
    rcases List.mem_cons.1 hin with e | hin
    · exact hv k hk e
    · exact hne k (by simpa using hin) hk
  have hbk : Blk (w1.setCell ⟨g, b, none⟩ t') p #[sv, pv, vv, .slice (some ⟨g, 0, none⟩) ts.length cap, rr] := h.blk.mod hm (by
    intro hx
    rcases List.mem_cons.1 hx with e | hx
    · exact hgp e.symm
    · exact h.np _ hin (by simpa using hx))
  have hnew : ∀ k, t'.ownBlock = some k → k ≠ g := by
    intro k hk e
    rcases ho with ho | ho
    · exact htg k (by rw [← ho]; exact hk) e
    · rw [ho] at hk; injection hk with hk; omega
  have hT1 : w1.ownsRow base 23 1 (.slice (some ⟨g, 0, none⟩) ts.length cap) ts.length ts := row_mod h.trow (Mod.of_grown hg) (fun k hk hx => htg k (by simpa using hx) (by have hk2 : some g = some k := hk; injection hk2 with hk2; exact hk2.symm))
  have hgetS : ∀ i, (ts.set b t').getD i nilS = if i = b then t' else ts.getD i nilS := fun i => by
    rw [List.getD_eq_getElem?_getD, List.getElem?_set]
    by_cases e : b = i
    · subst e; simp [hbt]
    · rw [if_neg e, if_neg (fun x => e x.symm), List.getD_eq_getElem?_getD]
  refine ⟨h.hp, hbk, row_mod h.prow hm (hl pv (fun k hk e => kinds_ne h.trow h.prow (by decide) g rfl (by rw [hk, e])) (kinds_ne (h.each b hb) h.prow (by decide))), row_mod h.vrow hm (hl vv (fun k hk e => kinds_ne h.trow h.vrow (by decide) g rfl (by rw [hk, e])) (kinds_ne (h.each b hb) h.vrow (by decide))), ?_, row_mod h.rrow hm (hl rr (fun k hk e => kinds_ne h.trow h.rrow (by decide) g rfl (by rw [hk, e])) (kinds_ne (h.each b hb) h.rrow (by decide))), by simp [h.tl], fun i hi => ?_, fun v hv => ?_, h.pvv, fun i j k hi hj hij => ?_⟩
  · unfold TRow
    rw [List.length_set]
    exact (World.ownsRow.stored hT1 b t').1
  · have hiT : i < T.length := by simpa using hi
    rw [hgetS i, getD_set _ _ _ _ hb]
    by_cases e : i = b
    · rw [if_pos e, if_pos e]
      exact ownsRow_setCell_other hr (fun e => hnew g e rfl) _
    · rw [if_neg e, if_neg e]
      exact row_mod (h.each i hiT) hm (hl _ (fun k hk e => kinds_ne h.trow (h.each i hiT) (by decide) g rfl (by rw [hk, e])) (fun k hk => h.apart b i k hbt (by rw [h.tl]; exact hiT) (Ne.symm e) hk))
  · simp only [List.mem_cons] at hv
    rcases hv with rfl | rfl | rfl | rfl | hv
    · exact h.np _ (by simp)
    · exact h.np _ (by simp)
    · exact h.np _ (by simp)
    · exact h.np _ (by simp)
    · rcases List.mem_or_eq_of_mem_set hv with hv | rfl
      · exact h.np v (by simp [hv])
      · exact hpn
  · intro hik
    rw [List.length_set] at hi hj
    rw [hgetS i] at hik
    rw [hgetS j]
    by_cases ei : i = b
    · rw [if_pos ei] at hik
      rw [if_neg (by omega)]
      rcases ho with ho | ho
      · exact h.apart b j k hbt hj (by omega) (by rw [← ho]; exact hik)
      · rw [ho] at hik
        injection hik with hik
        intro e
        have := ((h.each j (by rw [← h.tl]; exact hj)).lt k e)
        omega
    · rw [if_neg ei] at hik
      by_cases ej : j = b
      · rw [if_pos ej]
        rcases ho with ho | ho
        · rw [ho]; exact h.apart i b k hi hbt ei hik
        · rw [ho]
          intro e
          injection e with e
          have := ((h.each i (by rw [← h.tl]; exact hi)).lt k hik)
          omega
      · rw [if_neg ej]
        exact h.apart i j k hi hj hij hik
/-- A member's rules are set. -/
theorem LineV.rule_set {m g cap : Nat} {x y : Int} (h : LineV w base p sv pv vv tv (.slice (some ⟨g, 0, none⟩) R.length cap) ts P V T R) (hm : m < R.length) :
    LineV ((w.setCell ⟨g, m * 2, none⟩ (.int .i64 (x))).setCell ⟨g, m * 2 + 1, none⟩ (.int .i64 (y))) base p sv pv vv tv (.slice (some ⟨g, 0, none⟩) R.length cap) ts P V T (R.set m (x, y)) := by
  have hmd : Mod [g] w ((w.setCell ⟨g, m * 2, none⟩ (.int .i64 (x))).setCell ⟨g, m * 2 + 1, none⟩ (.int .i64 (y))) := ((Mod.refl _ w).setCell (.inl (by simp)) _).setCell (.inl (by simp)) _
  have hgp : g ≠ p := fun e => h.np (.slice (some ⟨g, 0, none⟩) R.length cap) (by simp) (by rw [← e]; rfl)
  have hk : ∀ {e2 : TypeId} {s2 n2 : Nat} {v : Value} {ys : List Value}, w.ownsRow base e2 s2 v n2 ys → 49 ≠ e2 → ∀ k, v.ownBlock = some k → k ∉ [g] := by
    intro e2 s2 n2 v ys hv hne k hk hx
    rw [List.mem_singleton] at hx
    exact kinds_ne h.rrow hv hne g rfl (by rw [hk, hx])
  refine ⟨h.hp, h.blk.mod hmd (by simp; exact Ne.symm hgp), row_mod h.prow hmd (hk h.prow (by decide)), row_mod h.vrow hmd (hk h.vrow (by decide)), row_mod h.trow hmd (hk h.trow (by decide)), ?_, h.tl, fun i hi => row_mod (h.each i hi) hmd (hk (h.each i hi) (by decide)), h.np, h.pvv, h.apart⟩
  have h1 := World.ownsRow.stored h.rrow (m * 2) (.int .i64 (x))
  have h2 := World.ownsRow.stored h1.1 (m * 2 + 1) (.int .i64 (y))
  unfold RRow
  rw [List.length_set, ← rv_set R m x y hm]
  exact h2.1
/-- Reading it. -/
theorem LineV.par (h : LineV w base p sv pv vv tv rr ts P V T R) (i : Nat) (hi : i < P.length) : ∃ g cap, pv = .slice (some ⟨g, 0, none⟩) P.length cap ∧ g < w.heap.size ∧ w.cell? ⟨g, i, none⟩ = some (.int .i64 (P.getD i 0)) := by
  obtain ⟨g, cap, e, h1, h2, _, _, h3, _⟩ := row_open h.prow (by omega)
  exact ⟨g, cap, e, h2, by rw [h3 i (by omega), iv, List.getElem?_map, List.getElem?_eq_getElem hi, List.getD_eq_getElem?_getD, List.getElem?_eq_getElem hi]; rfl⟩
theorem LineV.view (h : LineV w base p sv pv vv tv rr ts P V T R) (i : Nat) (hi : i < V.length) : ∃ g cap, vv = .slice (some ⟨g, 0, none⟩) V.length cap ∧ g < w.heap.size ∧ w.cell? ⟨g, i, none⟩ = some (.int .i64 (V.getD i 0)) := by
  obtain ⟨g, cap, e, h1, h2, _, _, h3, _⟩ := row_open h.vrow (by omega)
  exact ⟨g, cap, e, h2, by rw [h3 i (by omega), iv, List.getElem?_map, List.getElem?_eq_getElem hi, List.getD_eq_getElem?_getD, List.getElem?_eq_getElem hi]; rfl⟩
theorem LineV.vot (h : LineV w base p sv pv vv tv rr ts P V T R) (i : Nat) (hi : i < T.length) : ∃ g cap, tv = .slice (some ⟨g, 0, none⟩) ts.length cap ∧ g < w.heap.size ∧ w.cell? ⟨g, i, none⟩ = some (ts.getD i nilS) ∧ (∀ o, w.frozen? ⟨g, o, none⟩ = false) := by
  have hi2 : i < ts.length := by rw [h.tl]; exact hi
  obtain ⟨g, cap, e, h1, h2, _, _, h3, h4⟩ := row_open h.trow (by omega)
  exact ⟨g, cap, e, h2, by rw [h3 i (by omega), List.getElem?_eq_getElem hi2, List.getD_eq_getElem?_getD, List.getElem?_eq_getElem hi2]; rfl, h4⟩
theorem LineV.rule (h : LineV w base p sv pv vv tv rr ts P V T R) (i : Nat) (hi : i < R.length) : ∃ g cap, rr = .slice (some ⟨g, 0, none⟩) R.length cap ∧ g < w.heap.size ∧ w.cell? ⟨g, i * 2, none⟩ = some (.int .i64 ((R.getD i (0, 0)).1)) ∧ w.cell? ⟨g, i * 2 + 1, none⟩ = some (.int .i64 ((R.getD i (0, 0)).2)) ∧ (∀ o, w.frozen? ⟨g, o, none⟩ = false) := by
  obtain ⟨g, cap, e, h1, h2, _, _, h3, h4⟩ := row_open h.rrow (by omega)
  obtain ⟨q1, q2⟩ := rv_at R i hi
  exact ⟨g, cap, e, h2, by rw [h3 _ (by omega), q1], by rw [h3 _ (by omega), q2], h4⟩
end
end Go.Proofs.Ytbnjhfkmdejeaaa
