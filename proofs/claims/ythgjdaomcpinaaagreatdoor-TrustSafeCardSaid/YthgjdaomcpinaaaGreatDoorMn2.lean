/- Back, ListP, Kit. -/
import Derived.WalkKit
import Derived.ProofKit
import Derived.Outline
import Derived.WalkSpells
import Derived.WalkLawsBesides
import Derived.Deep.QuietTactic
import Derived.BigQuiet
import Derived.RowKit3
import Derived.Lib.Hide
import Derived.Lib.MinMax
import Derived.Lib.SmallJoins
import Derived.Deep.DeepCutAuto
import Derived.Deep.LoopGhost
import Derived.Deep.RegionHeld3
import Derived.Deep.RegionWith
import Derived.StillTailTactics
import Derived.Test.YthgjdaomcpinaaaGreatDoorMn1
set_option linter.unnecessarySimpa false

/- Layers 1, 2, 8: there and back, in plain Lean: no program in sight. -/
set_option linter.unusedSimpArgs false
set_option linter.unusedVariables false
namespace Go.Proofs.YthgjdaomcpinaaaGreatDoor
namespace Pl

/-! ### numbers -/
theorem digs_len : ∀ f n, (digs f n).length ≤ f
  | 0, n => by simp [digs]
  | f + 1, n => by
    unfold digs
    split
    · simp
    · have := digs_len f (n / 256); simp; omega
theorem be_digs : ∀ f n, n < 256 ^ f → be (digs f n) = n
  | 0, n, h => by simp at h; subst h; simp [digs, be]
  | f + 1, n, h => by
    by_cases h0 : n = 0
    · subst h0; simp [digs, be]
    · rw [digs_step f n (by omega), be_snoc, be_digs f (n / 256) (by rw [Nat.pow_succ] at h; omega)]
      simp; omega
theorem digs_ne (f n : Nat) (h : 0 < n) : digs (f + 1) n ≠ [] := by
  rw [digs_step f n h]; simp
theorem digs_head : ∀ f n, 0 < n → n < 256 ^ f → (digs f n).headD 0 ≠ 0
  | 0, n, h, h2 => by simp at h2; omega
  | f + 1, n, h, h2 => by
    rw [digs_step f n h]
    by_cases h0 : n / 256 = 0
    · rw [h0, digs_zero]
      simp only [List.nil_append, List.headD_cons]
      intro e
      have := congrArg UInt8.toNat e
      simp at this
      omega
    · have ih := digs_head f (n / 256) (by omega) (by rw [Nat.pow_succ] at h2; omega)
      cases hd : digs f (n / 256) with
      | nil => rw [hd] at ih; exact absurd rfl ih
      | cons a r => rw [hd] at ih; simpa using ih
theorem take_num (n : Nat) (h : n < 9223372036854775808) (r : Bs) : take (num n ++ r) = (n, r, 0) := by
  have h1 := digs_len 8 n
  have h2 := be_digs 8 n (by omega)
  have hk : (UInt8.ofNat (digs 8 n).length).toNat = (digs 8 n).length := by simp; omega
  show take (UInt8.ofNat (digs 8 n).length :: (digs 8 n ++ r)) = _
  unfold take
  simp only [hk]
  rw [if_neg (by omega), if_neg (by simp)]
  have ht : (digs 8 n ++ r).take (digs 8 n).length = digs 8 n := by simp
  have hd : (digs 8 n ++ r).drop (digs 8 n).length = r := by simp
  rw [ht, hd, h2, if_neg]
  rintro (⟨h3, h4⟩ | ⟨h3, h4⟩)
  · have hn : 0 < n := by
      rcases Nat.eq_zero_or_pos n with h0 | h0
      · subst h0; rw [digs_zero] at h3; simp at h3
      · exact h0
    have := digs_head 8 n hn (by omega)
    cases hd : digs 8 n with
    | nil => rw [hd] at h3; simp at h3
    | cons a q => rw [hd] at this h4; simp at this h4; exact this h4
  · cases hd : digs 8 n with
    | nil => rw [hd] at h3; simp at h3
    | cons a q =>
      rw [hd] at h2 h4 h3
      rw [be_cons] at h2
      simp at h3 h4
      rw [h3] at h2
      omega
theorem tx_text (t : Bs) (most : Int) (h : t.length < 9223372036854775808) (hm : (t.length : Int) ≤ most) (r : Bs) : tx (text t ++ r) most = (t, r, 0) := by
  unfold tx text
  rw [List.append_assoc, take_num _ h]
  simp only [ne_eq, not_true_eq_false, if_false]
  rw [if_neg (by omega), if_neg (by simp)]
  simp
theorem mText_text (t : Bs) (most : Int) (h : t.length < 9223372036854775808) (hm : (t.length : Int) ≤ most) (r : Bs) : mText (text t ++ r) 0 most = (t, r, 0) := by
  unfold mText
  rw [tx_text t most h hm]
  simp
theorem mBytes_app (t : Bs) (n : Nat) (h : t.length = n) (r : Bs) : mBytes (t ++ r) 0 n = (t, r, 0) := by
  subst h
  unfold mBytes
  rw [if_neg (by simp), if_neg (by omega), if_neg (by simp; omega)]
  simp

/-! ### nibbles -/
theorem ofP_joined (p : Bs) (hf : fit p = true) (he : p.length % 2 = 0) : ofP (joined p) = p := by
  induction p using joined.induct with
  | case1 a b r ih =>
    have ha := fit_at _ hf 0 (by simp)
    have hb := fit_at _ hf 1 (by simp)
    simp at ha hb
    have hr : fit r = true := by
      unfold fit at hf ⊢
      simp at hf ⊢
      exact hf.2.2
    have h1 : (UInt8.ofNat (a.toNat * 16 + b.toNat)).toNat = a.toNat * 16 + b.toNat := by simp; omega
    show ofP (UInt8.ofNat (a.toNat * 16 + b.toNat) :: joined r) = _
    have : ∀ x : UInt8, ofP (x :: joined r) = [UInt8.ofNat (x.toNat / 16), UInt8.ofNat (x.toNat % 16)] ++ ofP (joined r) := fun x => by simp [ofP]
    rw [this, h1, ih hr (by simp at he; omega), show (a.toNat * 16 + b.toNat) / 16 = a.toNat from by omega, show (a.toNat * 16 + b.toNat) % 16 = b.toNat from by omega]
    simp
  | case2 s h =>
    match s, h, he with
    | [], _, _ => simp [joined, ofP]
    | [x], _, he => simp at he
    | a :: b :: r, h, _ => exact absurd rfl (h a b r)
theorem unpack_pack (p : Bs) (leaf : Bool) (hf : fit p = true) : unpack (pack p leaf).1 = (p, leaf, 0) := by
  unfold pack
  rw [if_neg (by simp [hf])]
  by_cases ho : p.length % 2 = 1
  · rw [if_pos ho]
    cases p with
    | nil => simp at ho
    | cons c r =>
      have hc := fit_at _ hf 0 (by simp)
      simp at hc
      have hr : fit r = true := by
        unfold fit at hf ⊢
        simp at hf ⊢
        exact hf.2
      have hj := ofP_joined r hr (by simp at ho; omega)
      simp only [List.headD_cons, List.tail_cons]
      cases leaf
      · have h1 : (UInt8.ofNat (16 + c.toNat)).toNat = 16 + c.toNat := by simp; omega
        have h0 : (if (false : Bool) = true then 32 else 0) + 16 + c.toNat = 16 + c.toNat := by simp
        rw [h0]
        have h2 : (16 + c.toNat) / 16 = 1 := by omega
        have h3 : (16 + c.toNat) % 16 = c.toNat := by omega
        simp only [unpack, h1, h2, h3, hj]
        simp
      · have h1 : (UInt8.ofNat (48 + c.toNat)).toNat = 48 + c.toNat := by simp; omega
        show unpack (UInt8.ofNat (48 + c.toNat) :: joined r) = _
        have h2 : (48 + c.toNat) / 16 = 3 := by omega
        have h3 : (48 + c.toNat) % 16 = c.toNat := by omega
        simp only [unpack, h1, h2, h3, hj]
        simp
  · rw [if_neg ho]
    have hj := ofP_joined p hf (by omega)
    cases leaf
    · simp [unpack, hj]
    · simp [unpack, hj]

theorem joined_half (s : Bs) : (joined s).length ≤ s.length / 2 := by
  induction s using joined.induct with
  | case1 a b r ih => simp [joined] at ih ⊢; omega
  | case2 s h =>
    rw [joined.eq_def]
    split
    · rename_i a b r; exact absurd rfl (h a b r)
    · simp
theorem pack_half (p : Bs) (leaf : Bool) : (pack p leaf).1.length ≤ p.length / 2 + 1 := by
  unfold pack
  have h1 := joined_half p
  have h2 := joined_half p.tail
  have h3 : p.tail.length ≤ p.length := by simp
  split
  · simp
  · split
    · simp at *; omega
    · simp; omega
/-! ### nodes -/
theorem bit_of (kid : Nat → Bs) (k : Nat) (hk : k < 16) : numTo kid 16 / 2 ^ (15 - k) % 2 = bitv kid k := by
  have h := numTo_add kid (k + 1) (15 - k)
  have h2 := numTo_lt (fun i => kid (k + 1 + i)) (15 - k)
  rw [show k + 1 + (15 - k) = 16 from by omega] at h
  rw [h, Nat.mul_comm, Nat.mul_add_div (Nat.two_pow_pos _), Nat.div_eq_of_lt h2, Nat.add_zero, numTo]
  have : bitv kid k ≤ 1 := by unfold bitv; split <;> omega
  omega
/-- The kids from k on. -/
def kidsFrom (kid : Nat → Bs) : Nat → List Bs
  | 0 => []
  | n + 1 => (if kid (15 - n) = [] then [] else [kid (15 - n)]) ++ kidsFrom kid n
theorem kidsFrom_all (kid : Nat → Bs) : ∀ n, n ≤ 16 → kidsTo kid (16 - n) ++ kidsFrom kid n = kidsF kid
  | 0, _ => by simp [kidsFrom, kidsF]
  | n + 1, h => by
    rw [← kidsFrom_all kid n (by omega), kidsFrom, ← List.append_assoc, ← show 16 - (n + 1) = 15 - n from by omega, ← kidsTo_succ, show 16 - (n + 1) + 1 = 16 - n from by omega]
/-- The first k kids. -/
def cut (kid : Nat → Bs) (k : Nat) : Nat → Bs := fun i => if i < k then kid i else []
theorem rdKids_flat (kid : Nat → Bs) (ha : all32 (kidsF kid) = true) (r : Bs) : ∀ k, k ≤ 16 → rdKids (numTo kid 16) ((kidsF kid).flatten ++ r) 0 k = (cut kid k, (kidsFrom kid (16 - k)).flatten ++ r, 0)
  | 0, _ => by
    have h := kidsFrom_all kid 16 (by omega)
    simp [kidsTo] at h
    rw [rdKids, h]
    congr 1
  | k + 1, hk => by
    have ih := rdKids_flat kid ha r k (by omega)
    have hb := bit_of kid k (by omega)
    have hf : kidsFrom kid (16 - k) = (if kid k = [] then [] else [kid k]) ++ kidsFrom kid (16 - (k + 1)) := by
      rw [show 16 - k = (15 - k) + 1 from by omega, kidsFrom, show 15 - (15 - k) = k from by omega, show 16 - (k + 1) = 15 - k from by omega]
    rw [rdKids, ih, hb]
    by_cases he : kid k = []
    · rw [bitv, if_pos he, if_neg (by omega), hf, if_pos he]
      congr 1
      funext i
      unfold cut
      by_cases h1 : i < k
      · rw [if_pos h1, if_pos (by omega)]
      · by_cases h2 : i = k
        · subst h2; rw [if_neg h1, if_pos (by omega), he]
        · rw [if_neg h1, if_neg (by omega)]
    · have h32 : (kid k).length = 32 := by
        have h := kidsFrom_all kid (16 - k) (by omega)
        rw [hf, if_neg he] at h
        have hm : kid k ∈ kidsF kid := by rw [← h]; simp
        have := List.all_eq_true.1 ha (kid k) hm
        simpa using this
      rw [bitv, if_neg he, if_pos rfl, hf, if_neg he]
      simp only [List.flatten_append, List.flatten_cons, List.flatten_nil, List.append_nil, List.append_assoc]
      have hmb : mBytes (kid k ++ ((kidsFrom kid (16 - (k + 1))).flatten ++ r)) 0 32 = (kid k, (kidsFrom kid (16 - (k + 1))).flatten ++ r, 0) := mBytes_app (kid k) 32 h32 _
      rw [hmb]
      congr 1
      funext i
      simp only [cut, upd]
      by_cases h1 : i = k
      · subst h1; rw [if_pos rfl, if_pos (by omega)]
      · rw [if_neg h1]
        by_cases h2 : i < k
        · rw [if_pos h2, if_pos (by omega)]
        · rw [if_neg h2, if_neg (by omega)]

/-- What the bytes tell, what is left, the code; is the path packed as it should be? -/
def rdN : Bs → (Nd × Bs × Int) × Bool
  | [] => ((ndZ, [], 20), false)
  | k :: r =>
    if k = 3 then match r with
      | a :: b :: r' => (rdB (a.toNat * 256 + b.toNat) r', true)
      | _ => ((ndZ, [], 20), false)
    else if k = 1 then (rdL r 0, decide ((unpack (mText r 0 16).1).2.2 = 0) && (unpack (mText r 0 16).1).2.1)
    else (rdE k.toNat r 0, decide ((unpack (mText r 0 16).1).2.2 = 0) && !(unpack (mText r 0 16).1).2.1)
theorem dec_rdN (s : Bs) : dec s = decEnd (rdN s).1 (rdN s).2 := by
  match s with
  | [] => rfl
  | k :: r =>
    unfold dec rdN
    by_cases h3 : k = 3
    · simp only [if_pos h3]
      match r with
      | [] => rfl
      | [x] => rfl
      | a :: b :: r' => rfl
    · simp only [if_neg h3]
      by_cases h1 : k = 1
      · simp only [if_pos h1]
      · simp only [if_neg h1]
theorem kidL_eq {a b : Nat → Bs} (h : kidL a = kidL b) (i : Nat) (hi : i < 16) : a i = b i := by
  have := congrArg (fun l => l[i]?) h
  simpa [kidL, hi] using this
theorem cut_none {kid : Nat → Bs} (h : noKids kid = true) : cut kid 16 = noK := by
  funext i
  unfold cut
  by_cases hi : i < 16
  · rw [if_pos hi]
    have h1 : kidL kid = kidL noK := by
      simp only [noKids, sameL, decide_eq_true_eq] at h
      rw [h]; rfl
    exact kidL_eq h1 i hi
  · rw [if_neg hi]; rfl
theorem cut_one {kid : Nat → Bs} (h : oneKidX kid (kid 0) = true) : cut kid 16 = upd noK 0 (kid 0) := by
  have h1 : kidL kid = kidL (upd noK 0 (kid 0)) := by
    simp only [oneKidX, sameL, decide_eq_true_eq] at h
    rw [h]; rfl
  funext i
  unfold cut
  by_cases hi : i < 16
  · rw [if_pos hi]; exact kidL_eq h1 i hi
  · rw [if_neg hi]; unfold upd; rw [if_neg (by omega)]; rfl
theorem rdN_enc (kind : Int) (path val : Bs) (kid : Nat → Bs) (hc : chk kind path val kid = true) (more : Bs) :
    rdN (enc kind path val kid ++ more) = ((⟨kind, path, val, cut kid 16⟩, more, 0), true) := by
  unfold chk at hc
  by_cases k1 : kind = 1
  · subst k1
    simp [pathOk] at hc
    obtain ⟨⟨⟨hk, ⟨hf, hp⟩⟩, hv⟩, hv2⟩ := hc
    have hu := unpack_pack path true hf
    have hpl : (pack path true).1.length ≤ 16 := by
      have := pack_half path true
      omega
    have e1 : mText (text (pack path true).1 ++ (text val ++ more)) 0 16 = ((pack path true).1, text val ++ more, 0) := mText_text _ _ (by omega) (by omega) _
    have e2 : mText (text val ++ more) 0 32 = (val, more, 0) := mText_text _ _ (by omega) (by omega) _
    rw [show enc 1 path val kid ++ more = 1 :: (text (pack path true).1 ++ (text val ++ more)) from by simp [enc]]
    simp only [rdN, rdL, e1, e2, hu, cut_none hk]
    simp
  · by_cases k2 : kind = 2
    · subst k2
      simp [pathOk, all32] at hc
      obtain ⟨⟨⟨hk, h32⟩, ⟨⟨hf, hp1⟩, hp⟩⟩, hv⟩ := hc
      subst hv
      have hu := unpack_pack path false hf
      have hpl : (pack path false).1.length ≤ 16 := by
        have := pack_half path false
        omega
      have e1 : mText (text (pack path false).1 ++ (kid 0 ++ more)) 0 16 = ((pack path false).1, kid 0 ++ more, 0) := mText_text _ _ (by omega) (by omega) _
      have e2 : mBytes (kid 0 ++ more) 0 32 = (kid 0, more, 0) := mBytes_app (kid 0) 32 h32 _
      rw [show enc 2 path [] kid ++ more = 2 :: (text (pack path false).1 ++ (kid 0 ++ more)) from by simp [enc]]
      simp only [rdN, rdE, e1, e2, hu, cut_one hk]
      simp
    · by_cases k3 : kind = 3
      · subst k3
        simp at hc
        obtain ⟨⟨⟨hp, ha⟩, hm⟩, hv⟩ := hc
        subst hp
        have h16 := numTo_16 kid
        have hh := hiK_lt kid
        have hl := loK_lt kid
        have h1 : (UInt8.ofNat (hiK kid)).toNat * 256 + (UInt8.ofNat (loK kid)).toNat = numTo kid 16 := by simp; omega
        have e1 := rdKids_flat kid ha (text val ++ more) 16 (by omega)
        have e2 : mText (text val ++ more) 0 32 = (val, more, 0) := mText_text _ _ (by omega) (by omega) _
        rw [show enc 3 [] val kid ++ more = 3 :: UInt8.ofNat (hiK kid) :: UInt8.ofNat (loK kid) :: ((kidsF kid).flatten ++ (text val ++ more)) from by simp [enc]]
        simp only [rdN, if_true, rdB, h1, e1]
        simp [kidsFrom, e2]
      · rw [if_neg k1, if_neg k2, if_neg k3] at hc
        exact absurd hc (by simp)

/-- Two nodes are the same. -/
def sameN (k : Int) (p v : Bs) (kid : Nat → Bs) (k2 : Int) (p2 v2 : Bs) (kid2 : Nat → Bs) : Prop := k = k2 ∧ p = p2 ∧ v = v2 ∧ ∀ i, i < 16 → kid i = kid2 i
theorem cut_at {kid kid2 : Nat → Bs} (h : cut kid 16 = cut kid2 16) (i : Nat) (hi : i < 16) : kid i = kid2 i := by
  have := congrFun h i
  simpa [cut, hi] using this
/-- The bytes of one begin the other's just if they are the same. -/
theorem enc_begins {k k2 : Int} {p v p2 v2 : Bs} {kid kid2 : Nat → Bs} (h : chk k p v kid = true) (h2 : chk k2 p2 v2 kid2 = true) (more : Bs) (he : enc k2 p2 v2 kid2 = enc k p v kid ++ more) :
    more = [] ∧ sameN k p v kid k2 p2 v2 kid2 := by
  have e1 := rdN_enc k p v kid h more
  have e2 := rdN_enc k2 p2 v2 kid2 h2 []
  rw [List.append_nil, he, e1] at e2
  simp only [Prod.mk.injEq, Nd.mk.injEq, and_true] at e2
  obtain ⟨⟨a1, a2, a3, a4⟩, a5⟩ := e2
  exact ⟨a5, a1, a2, a3, cut_at a4⟩
theorem kidL_of {kid kid2 : Nat → Bs} (h : ∀ i, i < 16 → kid i = kid2 i) : kidL kid = kidL kid2 := by
  unfold kidL
  apply List.map_congr_left
  intro i hi
  exact h i (by simpa using hi)
theorem kidsTo_of {kid kid2 : Nat → Bs} (h : ∀ i, i < 16 → kid i = kid2 i) : ∀ n, n ≤ 16 → kidsTo kid n = kidsTo kid2 n
  | 0, _ => rfl
  | n + 1, hn => by rw [kidsTo_succ, kidsTo_succ, kidsTo_of h n (by omega), h n (by omega)]
theorem numTo_of {kid kid2 : Nat → Bs} (h : ∀ i, i < 16 → kid i = kid2 i) : ∀ n, n ≤ 16 → numTo kid n = numTo kid2 n
  | 0, _ => rfl
  | n + 1, hn => by rw [numTo, numTo, numTo_of h n (by omega), bitv, bitv, h n (by omega)]
theorem enc_of {k k2 : Int} {p v p2 v2 : Bs} {kid kid2 : Nat → Bs} (h : sameN k p v kid k2 p2 v2 kid2) : enc k p v kid = enc k2 p2 v2 kid2 := by
  obtain ⟨rfl, rfl, rfl, h⟩ := h
  have h1 : kidsF kid = kidsF kid2 := kidsTo_of h 16 (by omega)
  have h2 : hiK kid = hiK kid2 := numTo_of h 8 (by omega)
  have h3 : loK kid = loK kid2 := by unfold loK; rw [numTo_of h 16 (by omega)]
  have h4 := h 0 (by omega)
  unfold enc
  rw [h1, h2, h3, h4]
theorem chk_of {k : Int} {p v : Bs} {kid kid2 : Nat → Bs} (h : ∀ i, i < 16 → kid i = kid2 i) : chk k p v kid = chk k p v kid2 := by
  have h1 : kidsF kid = kidsF kid2 := kidsTo_of h 16 (by omega)
  have h2 := kidL_of h
  have h4 := h 0 (by omega)
  unfold chk noKids oneKidX
  rw [h1, h2, h4]
/-- THE LAW 'NodeUnlike': the bytes are the same just if the nodes are. -/
theorem unlike {k k2 : Int} {p v p2 v2 : Bs} {kid kid2 : Nat → Bs} (h : chk k p v kid = true) (h2 : chk k2 p2 v2 kid2 = true) :
    (enc k p v kid = enc k2 p2 v2 kid2 ↔ sameN k p v kid k2 p2 v2 kid2) ∧ (((enc k p v kid).length ≤ (enc k2 p2 v2 kid2).length ∧ (enc k2 p2 v2 kid2).take (enc k p v kid).length = enc k p v kid) ↔ sameN k p v kid k2 p2 v2 kid2) := by
  refine ⟨⟨fun he => (enc_begins h h2 [] (by simp [he])).2, enc_of⟩, ⟨fun ⟨hl, ht⟩ => ?_, fun hs => ?_⟩⟩
  · refine (enc_begins h h2 ((enc k2 p2 v2 kid2).drop (enc k p v kid).length) ?_).2
    have := List.take_append_drop (enc k p v kid).length (enc k2 p2 v2 kid2)
    rw [ht] at this
    exact this.symm
  · rw [enc_of hs]; simp

end Pl
end Go.Proofs.YthgjdaomcpinaaaGreatDoor

/- Plain: lists of texts as bytes, and again. -/
set_option linter.unusedSimpArgs false
set_option linter.unusedVariables false
namespace Go.Proofs.YthgjdaomcpinaaaGreatDoor
namespace Pl
/-- Texts as bytes. -/
def listB : List Bs → Bs
  | [] => []
  | x :: r => text x ++ listB r
def encS (l : List Bs) : Bs := num l.length ++ listB l
theorem listB_app (a : List Bs) (x : Bs) : listB (a ++ [x]) = listB a ++ text x := by
  induction a with
  | nil => simp [listB]
  | cons y r ih => simp [listB, ih, List.append_assoc]
theorem takeS (l : List Bs) (i : Nat) (hi : i < l.length) : l.take (i + 1) = l.take i ++ [l.getD i []] := by
  rw [List.take_add_one, List.getElem?_eq_getElem hi, List.getD_eq_getElem?_getD, List.getElem?_eq_getElem hi]
  rfl
/-- So many texts out of bytes: them, what is left, the code. -/
def lGo (each : Int) : Nat → Bs → List Bs × Bs × Int
  | 0, s => ([], s, 0)
  | n + 1, s => if (tx s each).2.2 ≠ 0 then ([], [], (tx s each).2.2) else ((tx s each).1 :: (lGo each n (tx s each).2.1).1, (lGo each n (tx s each).2.1).2)
/-- A list out of a reader. -/
def mList (s : Bs) (c most each : Int) : List Bs × Bs × Int :=
  if c ≠ 0 then ([], s, c)
  else if (take s).2.2 ≠ 0 then ([], s, (take s).2.2)
  else if most < (take s).1 then ([], s, 2)
  else if (lGo each (take s).1 (take s).2.1).2.2 ≠ 0 then ([], s, (lGo each (take s).1 (take s).2.1).2.2)
  else lGo each (take s).1 (take s).2.1
def mListIn (s : Bs) (x : List Bs × Bs × Int) : List Bs × Bs × Int := if x.2.2 ≠ 0 then ([], s, x.2.2) else x
theorem mList_in (s : Bs) (most each : Int) (h : (take s).2.2 = 0) (hm : ¬ most < (take s).1) : mList s 0 most each = mListIn s (lGo each (take s).1 (take s).2.1) := by
  unfold mList mListIn
  simp [h, hm]
theorem mList_long (s : Bs) (most each : Int) (h : (take s).2.2 = 0) (hm : most < (take s).1) : mList s 0 most each = ([], s, 2) := by
  unfold mList
  simp [h, hm]
theorem mList_bad (s : Bs) (most each : Int) (h : (take s).2.2 ≠ 0) : mList s 0 most each = ([], s, (take s).2.2) := by
  unfold mList
  simp [h]
theorem mList_c (s : Bs) (c most each : Int) (h : c ≠ 0) : mList s c most each = ([], s, c) := by
  unfold mList
  simp [h]
theorem listB_len (l : List Bs) (m : Nat) (h : ∀ i, i < l.length → (l.getD i []).length ≤ m) : ∀ k, k ≤ l.length → (listB (l.take k)).length ≤ (m + 9) * k
  | 0, _ => by simp [listB]
  | k + 1, hk => by
    have h1 := listB_len l m h k (by omega)
    have h2 := h k (by omega)
    rw [takeS l k (by omega), listB_app]
    have h4 := text_len (l.getD k [])
    simp only [List.length_append]
    rw [Nat.mul_add]
    omega
end Pl
end Go.Proofs.YthgjdaomcpinaaaGreatDoor

/- General lemmas, over any program: what a call of a law must show; blocks that are known whole; what stays below. -/
set_option linter.unusedSimpArgs false
set_option linter.unusedVariables false
namespace Go.Proofs.YthgjdaomcpinaaaGreatDoor
open Go.ChangeShapes Go.WideShapes Go.ChangeAt Go.RowKit

section
variable {H : Type} {enc : TypeId × Value → H} {P : Program}

theorem trodAll_below (hl : laidOutB P = true) {W W' : World} (hb : Below W.heap.size W W') :
    ∀ (ts : List TypeId) (vs : List Value) (ds : List (DataW H)) (ps : List MemPlace), (∀ t ∈ ts, P.readableRec t = true ∧ t < P.types.size) →
      DataW.TrodAll enc P W 0 (fun _ => true) true ts vs ds ps → (∀ x ∈ ps, x.block < W.heap.size) →
      DataW.TrodAll enc P W' 0 (fun b => decide (b < W.heap.size)) true ts vs ds ps
  | [], _, _, _, _, h, _ => by
    obtain ⟨rfl, rfl, rfl⟩ := trodAll_nil h
    exact trodAll_mk0
  | t :: ts, _, _, _, ht, h, hlt => by
    obtain ⟨v, vs, d, ds, p, q, rfl, rfl, rfl, h1, h2⟩ := trodAll_cons h
    exact ⟨p, q, Below.trod hl (ht t (by simp)).1 (ht t (by simp)).2 h1 hb (fun x hx => hlt x (by simp [hx])),
      trodAll_below hl hb ts vs ds q (fun u hu => ht u (by simp [hu])) h2 (fun x hx => hlt x (by simp [hx])), rfl⟩

/-- What a law's call must show. -/
theorem law_post {f : Func} {s : ChangeSpec} {apart fresh handsOn : Bool} {W W' : World} {args : Array Value} {ds gs : List (DataW H)} {before : List MemPlace} {tb : TypeId}
    (hl : laidOutB P = true) (hp : f.params.toList.all (fun t => P.readableRec t && decide (t < P.types.size)) = true)
    (hW : DataW.Whole enc P f.params.toList s.vars apart W args.toList ds gs before) (hv : s.vars = [])
    (hr : f.resultTypes = #[tb]) (htb : P.underlying tb = some .bool)
    (hs : s.fn H (ds ++ gs) = { results := [.lit (.bool true)], args := ds }) (hb : Below W.heap.size W W') :
    s.post enc P f apart fresh handsOn false W args (.bool true) W' := by
  have hlt := hW.lt
  have hW' := hW
  obtain ⟨p, q, hA, hV, rfl, hfz, hnd⟩ := hW
  rw [hv] at hV
  obtain ⟨rfl, rfl⟩ := trodVars_none hV
  refine ⟨ds, [], p ++ [], [], p, [], hW', ?_, ?_, ?_, hb.frame _, fun h => by cases h⟩
  · rw [hs, hr]; exact trodAll_mk1 (shut_bool htb _)
  · rw [hs]
    refine trodAll_below hl hb _ _ _ _ (fun t ht => ?_) hA (fun x hx => hlt x (by simp [hx]))
    have := List.all_eq_true.1 hp t ht
    simpa using this
  · rw [hv, hs]; exact rfl
end

theorem bcell {W w1 : World} (hb : Below W.heap.size W w1) : (∀ b o, b < W.heap.size → w1.cell? ⟨b, o, none⟩ = W.cell? ⟨b, o, none⟩) ∧ (∀ b o, b < W.heap.size → w1.frozen? ⟨b, o, none⟩ = W.frozen? ⟨b, o, none⟩) :=
  ⟨fun b o h => hb.cell (p := ⟨b, o, none⟩) h, fun b o h => hb.frozen (p := ⟨b, o, none⟩) h⟩
theorem ret_three {v0 v1 v2 u0 u1 u2 : Value} (h0 : v0 = u0) (h1 : v1 = u1) (h2 : v2 = u2) : Ending.returned (.tuple #[v0, v1, v2]) = .returned (.tuple #[u0, u1, u2]) := by rw [h0, h1, h2]
theorem keepC {W w1 : World} (hb : Below W.heap.size W w1) {b o : Nat} {v : Value} (h : W.cell? ⟨b, o, none⟩ = some v) : w1.cell? ⟨b, o, none⟩ = some v := by
  have hlt : b < W.heap.size := by
    rcases Nat.lt_or_ge b W.heap.size with h' | h'
    · exact h'
    · simp [World.cell?, Array.getElem?_eq_none h'] at h
  rw [hb.cell (p := ⟨b, o, none⟩) hlt]; exact h
theorem keepF {W w1 : World} (hb : Below W.heap.size W w1) {b o : Nat} (hlt : b < W.heap.size) (h : W.frozen? ⟨b, o, none⟩ = false) : w1.frozen? ⟨b, o, none⟩ = false := by
  rw [hb.frozen (p := ⟨b, o, none⟩) hlt]; exact h
theorem keepO {W w1 : World} (hb : Below W.heap.size W w1) {b : Nat} {cs : Array Value} (hlt : b < W.heap.size) (h : ∀ o, W.cell? ⟨b, o, none⟩ = cs[o]?) (o : Nat) : w1.cell? ⟨b, o, none⟩ = cs[o]? :=
  (hb.cell (p := ⟨b, o, none⟩) hlt).trans (h o)
theorem keepL {W w1 : World} (hb : Below W.heap.size W w1) {b : Nat} (hlt : b < W.heap.size) : b < w1.heap.size := Nat.lt_of_lt_of_le hlt hb.size
theorem allocO {W : World} {b : Nat} {cs : Array Value} {x : Obj} (hlt : b < W.heap.size) (h : ∀ o, W.cell? ⟨b, o, none⟩ = cs[o]?) (o : Nat) : (W.alloc x).cell? ⟨b, o, none⟩ = cs[o]? :=
  (World.cell?_alloc_past x b o hlt).trans (h o)
theorem allocL {W : World} {b : Nat} {x : Obj} (hlt : b < W.heap.size) : b < (W.alloc x).heap.size := by simp; omega
theorem wf64 {n : Int} (h : (Lit.int .i64 n).wf = true) : -9223372036854775808 ≤ n ∧ n ≤ 9223372036854775807 := by
  have h1 : IntKind.i64.min = -9223372036854775808 := rfl
  have h2 : IntKind.i64.max = 9223372036854775807 := rfl
  simpa [Lit.wf, h1, h2] using h
theorem ret_bool {a b : Bool} (h : a = true ↔ b = true) : Ending.returned (.bool a) = .returned (.bool b) := by rw [Bool.eq_iff_iff.2 h]
theorem ret_int {k : IntKind} {a b : Int} (h : a = b) : Ending.returned (.int k a) = .returned (.int k b) := by rw [h]

@[go_sem, simp] theorem str_app (l m : List UInt8) : (⟨List.toArray l⟩ : ByteArray) ++ ⟨List.toArray m⟩ = ⟨List.toArray (l ++ m)⟩ := by
  apply ByteArray.ext
  apply Array.ext'
  simp
@[go_sem, simp] theorem ext_list (l : List UInt8) (a b : Nat) : (⟨List.toArray l⟩ : ByteArray).extract a b = ⟨List.toArray ((l.drop a).take (b - a))⟩ := by
  apply ByteArray.ext
  apply Array.ext'
  simp
@[go_sem, simp] theorem str_get (l : List UInt8) (i : Nat) (h : i < (⟨List.toArray l⟩ : ByteArray).size) : (⟨List.toArray l⟩ : ByteArray)[i]'h = l[i]'(by simpa [ByteArray.size] using h) := rfl
theorem ofInt64_nat (a : Nat) (ha : a < 9223372036854775808) : (BitVec.ofInt 64 (a : Int)).toNat = a := by
  rw [BitVec.toNat_ofInt]
  omega
theorem wrap_i64_nat (a : Nat) (ha : a < 9223372036854775808) : IntKind.i64.wrap (a : Int) = a := by
  rw [IntKind.wrap_i64]; omega
theorem i64_or_nat (a b : Nat) (ha : a < 9223372036854775808) (hb : b < 9223372036854775808) : bits .or .i64 (a : Int) (b : Int) = ((a ||| b : Nat) : Int) := by
  have hx : a ||| b < 2 ^ 63 := Nat.or_lt_two_pow (by omega) (by omega)
  show IntKind.i64.wrap ((BitVec.ofInt 64 (a : Int) ||| BitVec.ofInt 64 (b : Int)).toNat : Int) = _
  rw [BitVec.toNat_or, ofInt64_nat a ha, ofInt64_nat b hb]
  exact wrap_i64_nat _ (by omega)
theorem i64_and_nat (a b : Nat) (ha : a < 9223372036854775808) (hb : b < 9223372036854775808) : bits .and .i64 (a : Int) (b : Int) = ((a &&& b : Nat) : Int) := by
  have hx : a &&& b < 2 ^ 63 := Nat.and_lt_two_pow _ (by omega)
  show IntKind.i64.wrap ((BitVec.ofInt 64 (a : Int) &&& BitVec.ofInt 64 (b : Int)).toNat : Int) = _
  rw [BitVec.toNat_and, ofInt64_nat a ha, ofInt64_nat b hb]
  exact wrap_i64_nat _ (by omega)
/-- 'n<<8 | b'. -/
theorem i64_or_byte (m x : Nat) (hm : m < 36028797018963968) (hx : x < 256) : bits .or .i64 ((m : Int) * 256) (x : Int) = ((m * 256 + x : Nat) : Int) := by
  have h := i64_or_nat (m * 256) x (by omega) (by omega)
  have h2 : m * 256 ||| x = m * 256 + x := by
    have := Nat.two_pow_add_eq_or_of_lt (i := 8) (b := x) (by omega) m
    rw [Nat.mul_comm m 256]
    exact this.symm
  rw [h2] at h
  rw [← h]
  simp
theorem u8_and15 (n : Nat) (h : n < 256) : bits .and .u8 (n : Int) 15 = ((n % 16 : Nat) : Int) := by
  have h1 := u8_and_nat n 15 h (by omega)
  rw [Nat.and_two_pow_sub_one_eq_mod n 4] at h1
  exact h1
theorem u8_or_hi (a b : Nat) (ha : a < 16) (hb : b < 16) : bits .or .u8 ((a : Int) * 16) (b : Int) = ((a * 16 + b : Nat) : Int) := by
  have h := u8_or_nat (a * 16) b (by omega) (by omega)
  have h2 : a * 16 ||| b = a * 16 + b := by
    have := Nat.two_pow_add_eq_or_of_lt (i := 4) (b := b) (by omega) a
    rw [Nat.mul_comm a 16]
    exact this.symm
  rw [h2] at h
  rw [← h]
  simp
theorem u8_div16 (c : UInt8) : c / 16 = UInt8.ofNat (c.toNat / 16) := by
  have := c.toNat_lt
  apply UInt8.toNat_inj.1
  simp
  omega
theorem u8_mod16 (c : UInt8) : c % 16 = UInt8.ofNat (c.toNat % 16) := by
  have := c.toNat_lt
  apply UInt8.toNat_inj.1
  simp
  omega
theorem ret_two {v0 v1 u0 u1 : Value} (h0 : v0 = u0) (h1 : v1 = u1) : Ending.returned (.tuple #[v0, v1]) = .returned (.tuple #[u0, u1]) := by rw [h0, h1]
theorem str_eq {l m : List UInt8} (h : l = m) : Value.string ⟨List.toArray l⟩ = .string ⟨List.toArray m⟩ := by rw [h]

theorem below_drewN {B : Nat} {a w : World} (h : Below B a w) (n : Nat) : Below B a (w.drewN n) := ⟨h.os, h.tape, h.output, h.size, h.block⟩
theorem Below.allocS {w w' : World} (h : Below w.heap.size w w') (o : Obj) : Below w.heap.size w (w'.alloc o) := h.alloc h.size o
/-- A block of cells that is known whole, and of which no cell is frozen. -/
structure Blk (w : World) (b : Nat) (cs : Array Value) : Prop where
  cell : ∀ o, w.cell? ⟨b, o, none⟩ = cs[o]?
  froz : ∀ o, w.frozen? ⟨b, o, none⟩ = false
  lt : b < w.heap.size
theorem Blk.keep {W w1 : World} (hb : Below W.heap.size W w1) {b : Nat} {cs : Array Value} (h : Blk W b cs) : Blk w1 b cs :=
  ⟨fun o => (hb.cell (p := ⟨b, o, none⟩) h.lt).trans (h.cell o), fun o => (hb.frozen (p := ⟨b, o, none⟩) h.lt).trans (h.froz o), Nat.lt_of_lt_of_le h.lt hb.size⟩
theorem Blk.new (w : World) (cs : Array Value) (t : TypeId) : Blk (w.alloc (.cells cs t)) w.heap.size cs :=
  ⟨fun o => by simp, fun o => by simp, by simp⟩
theorem Blk.new' {w : World} {cs : Array Value} {t : TypeId} {n : Nat} (h : n = w.heap.size) : Blk (w.alloc (.cells cs t)) n cs := by
  subst h; exact Blk.new w cs t
theorem Blk.alloc {w : World} {b : Nat} {cs : Array Value} (h : Blk w b cs) (o : Obj) : Blk (w.alloc o) b cs :=
  ⟨fun i => (World.cell?_alloc_past o b i h.lt).trans (h.cell i), fun i => (World.frozen?_alloc_past o b i h.lt).trans (h.froz i), by simp; have := h.lt; omega⟩
theorem Blk.drew {w : World} {b : Nat} {cs : Array Value} (h : Blk w b cs) : Blk w.drew b cs := ⟨h.cell, h.froz, h.lt⟩
theorem Blk.other {w : World} {b : Nat} {cs : Array Value} (h : Blk w b cs) {a : Addr} (ha : a.block ≠ b) (v : Value) : Blk (w.setCell a v) b cs :=
  ⟨fun i => (World.cell?_setCell_other w a ⟨b, i, none⟩ v (fun e => ha (by rw [e]))).trans (h.cell i), fun i => (World.frozen?_setCell _ _ _ _).trans (h.froz i), by simpa [World.setCell] using h.lt⟩
theorem Blk.set {w : World} {b : Nat} {cs : Array Value} (h : Blk w b cs) (i : Nat) (v : Value) : Blk (w.setCell ⟨b, i, none⟩ v) b (cs.setIfInBounds i v) := by
  refine ⟨fun o => ?_, fun o => (World.frozen?_setCell _ _ _ _).trans (h.froz o), by simpa [World.setCell] using h.lt⟩
  rw [Array.getElem?_setIfInBounds]
  by_cases e : i = o
  · subst e
    rw [if_pos rfl]
    split
    · rename_i hlt
      exact World.cell?_setCell_same w _ v (u := cs[i]) (by rw [h.cell i]; simp [hlt])
    · rename_i hge
      have h1 : w.cell? ⟨b, i, none⟩ = none := by rw [h.cell i]; simp; omega
      have h2 := h.lt
      unfold World.cell? World.setCell at *
      simp only [Array.getElem?_modify, if_true] at *
      cases hh : w.heap[b]? with
      | none => simp
      | some ob => cases ob <;> simp_all
  · rw [if_neg e, World.cell?_setCell_other w _ _ v (by intro hh; injection hh; contradiction)]
    exact h.cell o

/-- 'string(b)' of bytes that are known. -/
theorem conv_str {P : Program} {w : World} (src e dst : TypeId) (hs : P.underlying src = some (.slice e)) (he : P.underlying e = some (.int .u8)) (hd : P.underlying dst = some .string) (b off len cap : Nat) (l : List UInt8) (hlen : l.length = len)
    (hcell : ∀ i, i < len → w.cell? ⟨b, off + i, none⟩ = some (.int .u8 ((l.getD i 0).toNat : Int))) :
    (convert src dst (.slice (some ⟨b, off, none⟩) len cap)).run P w = .ok (.string ⟨List.toArray l⟩) w := by
  have h := run_convert_bytes_arg (P := P) w src e hs he b off len cap (l.map fun c => (c.toNat : Int)) (by simpa using hlen) (fun i hi => by
    rw [hcell i hi]
    simp [List.getD, List.getElem?_eq_getElem (show i < l.length by omega)]) dst hd
  rw [h]
  congr 2
  apply ByteArray.ext
  apply Array.ext'
  rw [strOfNums_data]
  simp only [List.map_map]
  refine (List.map_congr_left (g := id) fun c _ => ?_).trans (by simp)
  simp [Function.comp]

/-- 'string([]byte{a})', of two bytes, of four. -/
@[go_sem] theorem run_conv0 {P : Program} {W : World} (src dst g o n : Nat) (hs : P.underlying src = some (.slice (P.elem src))) (he : P.underlying (P.elem src) = some (.int .u8)) (hd : P.underlying dst = some .string) :
    (convert src dst (.slice (some ⟨g, o, none⟩) 0 n)).run P W = .ok (.string ⟨List.toArray []⟩) W := by
  have h' := run_convert_bytes_arg (P := P) W src _ hs he g o 0 n [] rfl (fun i hi => by omega) dst hd
  rw [h']; rfl
@[go_sem] theorem run_conv1 {P : Program} {W : World} (src dst g n : Nat) (hs : P.underlying src = some (.slice (P.elem src))) (he : P.underlying (P.elem src) = some (.int .u8)) (hd : P.underlying dst = some .string) :
    (convert src dst (.slice (some ⟨g, 0, none⟩) 1 n)).run P W = match W.cell? ⟨g, 0, none⟩ with
      | some (.int .u8 x) => .ok (.string ⟨List.toArray [UInt8.ofNat x.toNat]⟩) W
      | _ => (Conv.bytesToString (.slice (some ⟨g, 0, none⟩) 1 n)).run P W := by
  split
  · rename_i x h
    have h' := run_convert_bytes_arg (P := P) W src _ hs he g 0 1 n [x] rfl (fun i hi => by
      have : i = 0 := by omega
      subst this; simpa using h) dst hd
    rw [h']; rfl
  · exact run_convert_bytes_string W src dst _ _ 1 n hs he hd
@[go_sem] theorem run_conv2 {P : Program} {W : World} (src dst g n : Nat) (hs : P.underlying src = some (.slice (P.elem src))) (he : P.underlying (P.elem src) = some (.int .u8)) (hd : P.underlying dst = some .string) :
    (convert src dst (.slice (some ⟨g, 0, none⟩) 2 n)).run P W = match W.cell? ⟨g, 0, none⟩, W.cell? ⟨g, 1, none⟩ with
      | some (.int .u8 x), some (.int .u8 y) => .ok (.string ⟨List.toArray [UInt8.ofNat x.toNat, UInt8.ofNat y.toNat]⟩) W
      | _, _ => (Conv.bytesToString (.slice (some ⟨g, 0, none⟩) 2 n)).run P W := by
  split
  · rename_i x y h h2
    have h' := run_convert_bytes_arg (P := P) W src _ hs he g 0 2 n [x, y] rfl (fun i hi => by
      match i, hi with
      | 0, _ => simpa using h
      | 1, _ => simpa using h2) dst hd
    rw [h']; rfl
  · exact run_convert_bytes_string W src dst _ _ 2 n hs he hd

/-- Of the blocks that were there only those of the list may have changed. -/
structure Mod (l : List Nat) (w w' : World) : Prop where
  os : w'.os = w.os
  tape : w'.tape = w.tape
  output : w'.output = w.output
  size : w.heap.size ≤ w'.heap.size
  block : ∀ k, k < w.heap.size → k ∉ l → w'.heap[k]? = w.heap[k]?
theorem Mod.refl (l : List Nat) (w : World) : Mod l w w := ⟨rfl, rfl, rfl, Nat.le_refl _, fun _ _ _ => rfl⟩
theorem Mod.trans {l : List Nat} {a b c : World} (h : Mod l a b) (k : Mod l b c) : Mod l a c :=
  ⟨k.os.trans h.os, k.tape.trans h.tape, k.output.trans h.output, Nat.le_trans h.size k.size, fun i hi hn => (k.block i (Nat.lt_of_lt_of_le hi h.size) hn).trans (h.block i hi hn)⟩
theorem Mod.drew {l : List Nat} {a w : World} (h : Mod l a w) : Mod l a w.drew := ⟨h.os, h.tape, h.output, h.size, h.block⟩
theorem Mod.drewN {l : List Nat} {a w : World} (h : Mod l a w) (n : Nat) : Mod l a (w.drewN n) := ⟨h.os, h.tape, h.output, h.size, h.block⟩
theorem Mod.of_below {l : List Nat} {w w' : World} (h : Below w.heap.size w w') : Mod l w w' := ⟨h.os, h.tape, h.output, h.size, fun k hk _ => h.block k hk⟩
theorem Mod.below {w w' : World} (h : Mod [] w w') : Below w.heap.size w w' := ⟨h.os, h.tape, h.output, h.size, fun k hk => h.block k hk (by simp)⟩
theorem Mod.sub {l m : List Nat} {w w' : World} (h : Mod l w w') (hs : ∀ x ∈ l, x ∈ m ∨ w.heap.size ≤ x) : Mod m w w' :=
  ⟨h.os, h.tape, h.output, h.size, fun k hk hn => h.block k hk (fun hm => (hs k hm).elim hn (by omega))⟩
theorem Mod.alloc {l : List Nat} {a w : World} (h : Mod l a w) (o : Obj) : Mod l a (w.alloc o) :=
  h.trans ⟨rfl, rfl, rfl, by simp, fun k hk _ => Below.heap_alloc _ _ _ hk⟩
theorem Mod.setCell {l : List Nat} {a w : World} (h : Mod l a w) {p : Addr} (hp : p.block ∈ l ∨ a.heap.size ≤ p.block) (u : Value) : Mod l a (w.setCell p u) := by
  refine ⟨h.os, h.tape, h.output, by simpa [World.setCell] using h.size, fun k hk hn => (Below.heap_setCell _ _ _ _ ?_).trans (h.block k hk hn)⟩
  intro e
  subst e
  rcases hp with hp | hp
  · exact hn hp
  · omega
/-- Behind a call that may change the blocks of m alone, all of which are new since a, or in l. -/
theorem Mod.call {l m : List Nat} {a w w' : World} (h : Mod l a w) (k : Mod m w w') (hs : ∀ x ∈ m, x ∈ l ∨ a.heap.size ≤ x) : Mod l a w' :=
  ⟨k.os.trans h.os, k.tape.trans h.tape, k.output.trans h.output, Nat.le_trans h.size k.size, fun i hi hn =>
    (k.block i (Nat.lt_of_lt_of_le hi h.size) (fun hm => (hs i hm).elim hn (by omega))).trans (h.block i hi hn)⟩
theorem Blk.of_block {w w' : World} {b : Nat} {cs : Array Value} (h : Blk w b cs) (hb : w'.heap[b]? = w.heap[b]?) (hs : w.heap.size ≤ w'.heap.size) : Blk w' b cs :=
  ⟨fun o => (World.cell?_of_block (w := w) hb).trans (h.cell o), fun o => (World.frozen?_of_block (w := w) hb).trans (h.froz o), Nat.lt_of_lt_of_le h.lt hs⟩
theorem Blk.mod {w w' : World} {b : Nat} {cs : Array Value} (h : Blk w b cs) {l : List Nat} (hm : Mod l w w') (hb : b ∉ l) : Blk w' b cs :=
  h.of_block (hm.block b h.lt hb) hm.size
theorem Blk.drewN {w : World} {b : Nat} {cs : Array Value} (h : Blk w b cs) (n : Nat) : Blk (w.drewN n) b cs := ⟨h.cell, h.froz, h.lt⟩
theorem Below.mod {B : Nat} {a w w' : World} {l : List Nat} (h : Below B a w) (hm : Mod l w w') (hB : B ≤ w.heap.size) (hl : ∀ x ∈ l, B ≤ x) : Below B a w' :=
  h.trans ⟨hm.os, hm.tape, hm.output, hm.size, fun k hk => hm.block k (by omega) (fun hx => by have := hl k hx; omega)⟩

end Go.Proofs.YthgjdaomcpinaaaGreatDoor
