/-
  the check sum finds every change within sixteen bits. (No statement of the seat is proved here.)
-/
import Derived.Test.YtcohlhplpogopaaGreatWf
set_option linter.unusedSimpArgs false
set_option linter.unusedVariables false
namespace Go.Proofs.YtcohlhplpogopaaGreat
namespace A

def stepR (r b : Nat) : Nat := if r / 32768 = b then r * 2 % 65536 else (r * 2 % 65536) ^^^ 4129
def runR (r : Nat) (l : List Nat) : Nat := l.foldl stepR r
def bitsOf (x : UInt8) : List Nat := (List.range 8).map fun i => x.toNat / 2 ^ (7 - i) % 2
def bits (l : List UInt8) : List Nat := l.flatMap bitsOf

theorem stepR_lt (r b : Nat) : stepR r b < 65536 := by
  unfold stepR; split
  · omega
  · exact Nat.xor_lt_two_pow (n := 16) (by omega) (by decide)
theorem runR_lt : ∀ (l : List Nat) {r : Nat}, r < 65536 → runR r l < 65536
  | [], _, h => h
  | b :: l, r, _ => runR_lt l (stepR_lt r b)
theorem runR_append (r : Nat) (l l' : List Nat) : runR r (l ++ l') = runR (runR r l) l' := by unfold runR; rw [List.foldl_append]
theorem crcBits_run (r : Nat) (x : UInt8) : crcBits r x.toNat 8 = runR r (bitsOf x) := by
  unfold crcBits runR bitsOf
  rw [List.foldl_map]; rfl
theorem fold_run : ∀ (l : List UInt8) (r : Nat), l.foldl (fun r b => crcBits r b.toNat 8) r = runR r (bits l)
  | [], r => rfl
  | b :: l, r => by
    rw [List.foldl_cons, fold_run l, crcBits_run]
    unfold bits
    rw [List.flatMap_cons, runR_append]
theorem crc_run (l : List UInt8) : crc l = runR 65535 (bits l) := fold_run l 65535

/- going back -/
theorem step_parity {r b : Nat} : stepR r b % 2 = if r / 32768 = b then 0 else 1 := by
  unfold stepR
  split
  · omega
  · have := Nat.xor_mod_two_pow (a := r * 2 % 65536) (b := 4129) (n := 1)
    rw [show (2 : Nat) ^ 1 = 2 from rfl] at this
    rw [this, show r * 2 % 65536 % 2 = 0 from by omega]; rfl
theorem step_back {r r' b b' m : Nat} (hm : m ≤ 15) (h : stepR r b % 2 ^ (m + 1) = stepR r' b' % 2 ^ (m + 1)) : (r / 32768 = b ↔ r' / 32768 = b') ∧ r % 2 ^ m = r' % 2 ^ m := by
  have hpar : stepR r b % 2 = stepR r' b' % 2 := by
    have h2 : (2 : Nat) ∣ 2 ^ (m + 1) := ⟨2 ^ m, by rw [Nat.pow_succ, Nat.mul_comm]⟩
    rw [← Nat.mod_mod_of_dvd (stepR r b) h2, ← Nat.mod_mod_of_dvd (stepR r' b') h2, h]
  rw [step_parity, step_parity] at hpar
  have hc : (r / 32768 = b ↔ r' / 32768 = b') := by
    by_cases h1 : r / 32768 = b <;> by_cases h2 : r' / 32768 = b' <;> simp_all
  refine ⟨hc, ?_⟩
  have hdv : 2 ^ (m + 1) ∣ 65536 := by
    have : (65536 : Nat) = 2 ^ 16 := rfl
    rw [this]
    exact Nat.pow_dvd_pow 2 (by omega)
  have key : ∀ a a' : Nat, (a * 2 % 65536) % 2 ^ (m + 1) = (a' * 2 % 65536) % 2 ^ (m + 1) → a % 2 ^ m = a' % 2 ^ m := by
    intro a a' e
    rw [Nat.mod_mod_of_dvd _ hdv, Nat.mod_mod_of_dvd _ hdv, Nat.pow_succ, Nat.mul_mod_mul_right, Nat.mul_mod_mul_right] at e
    omega
  unfold stepR at h
  by_cases h1 : r / 32768 = b
  · have h2 := hc.1 h1
    rw [if_pos h1, if_pos h2] at h
    exact key _ _ h
  · have h2 : ¬ r' / 32768 = b' := fun hh => h1 (hc.2 hh)
    rw [if_neg h1, if_neg h2, Nat.xor_mod_two_pow, Nat.xor_mod_two_pow] at h
    refine key _ _ ?_
    have h3 := congrArg (fun z => z ^^^ (4129 % 2 ^ (m + 1))) h
    simpa [Nat.xor_assoc] using h3

def cs : Nat → List Nat → List Bool
  | _, [] => []
  | r, b :: l => decide (r / 32768 = b) :: cs (stepR r b) l
theorem run_back : ∀ (l l' : List Nat) (k r r' : Nat), l'.length = l.length → l.length ≤ k → k ≤ 16 → runR r l % 2 ^ k = runR r' l' % 2 ^ k → r % 2 ^ (k - l.length) = r' % 2 ^ (k - l.length) ∧ cs r l = cs r' l'
  | [], [], k, r, r', _, _, _, h => ⟨h, rfl⟩
  | [], _ :: _, _, _, _, h, _, _, _ => by simp at h
  | _ :: _, [], _, _, _, h, _, _, _ => by simp at h
  | b :: l, b' :: l', k, r, r', hl, hk, h16, h => by
    rw [List.length_cons] at hk
    obtain ⟨h1, h2⟩ := run_back l l' k (stepR r b) (stepR r' b') (by simpa using hl) (by omega) h16 h
    rw [show k - l.length = (k - (l.length + 1)) + 1 from by omega] at h1
    obtain ⟨h3, h4⟩ := step_back (by omega) h1
    refine ⟨h4, ?_⟩
    show _ :: _ = _ :: _
    rw [h2, show decide (r / 32768 = b) = decide (r' / 32768 = b') from by rw [decide_eq_decide]; exact h3]
theorem cs_inj : ∀ (l l' : List Nat) (r : Nat), r < 65536 → (∀ b, b ∈ l → b < 2) → (∀ b, b ∈ l' → b < 2) → cs r l = cs r l' → l = l'
  | [], [], _, _, _, _, _ => rfl
  | [], _ :: _, _, _, _, _, h => by simp [cs] at h
  | _ :: _, [], _, _, _, _, h => by simp [cs] at h
  | b :: l, b' :: l', r, hr, hb, hb', h => by
    unfold cs at h
    rw [List.cons.injEq] at h
    have h1 := hb b (List.mem_cons_self ..)
    have h2 := hb' b' (List.mem_cons_self ..)
    have h3 := decide_eq_decide.1 h.1
    have e : b = b' := by omega
    subst e
    rw [cs_inj l l' (stepR r b) (stepR_lt _ _) (fun c hc => hb c (List.mem_cons_of_mem _ hc)) (fun c hc => hb' c (List.mem_cons_of_mem _ hc)) h.2]
theorem run16 {l l' : List Nat} {r : Nat} (hr : r < 65536) (h1 : l.length = 16) (h2 : l'.length = 16) (hb : ∀ b, b ∈ l → b < 2) (hb' : ∀ b, b ∈ l' → b < 2) (h : runR r l = runR r l') : l = l' :=
  cs_inj l l' r hr hb hb' (run_back l l' 16 r r (by omega) (by omega) (Nat.le_refl _) (by rw [h])).2
theorem step_inj {r r' b : Nat} (hr : r < 65536) (hr' : r' < 65536) (hb : b < 2) (h : stepR r b = stepR r' b) : r = r' := by
  obtain ⟨h1, h2⟩ := step_back (m := 15) (Nat.le_refl _) (congrArg (· % 2 ^ (15 + 1)) h)
  rw [show (2 : Nat) ^ 15 = 32768 from rfl] at h2
  omega
theorem run_inj : ∀ (l : List Nat) {r r' : Nat}, r < 65536 → r' < 65536 → (∀ b, b ∈ l → b < 2) → runR r l = runR r' l → r = r'
  | [], _, _, _, _, _, h => h
  | b :: l, r, r', hr, hr', hb, h => step_inj hr hr' (hb b (List.mem_cons_self ..)) (run_inj l (stepR_lt _ _) (stepR_lt _ _) (fun c hc => hb c (List.mem_cons_of_mem _ hc)) h)

/-- two rows of bits that differ only within sixteen places and come to the same are the same. -/
theorem burst {S B : List Nat} {p r : Nat} (hr : r < 65536) (hl : B.length = S.length) (hp : p + 16 ≤ S.length) (hS : ∀ b, b ∈ S → b < 2) (hB : ∀ b, b ∈ B → b < 2) (hd : ∀ i, i < p ∨ p + 16 ≤ i → S[i]? = B[i]?) (h : runR r S = runR r B) : S = B := by
  have e1 : ∀ l : List Nat, l = l.take p ++ ((l.drop p).take 16 ++ l.drop (p + 16)) := by
    intro l
    have : (l.drop p).take 16 ++ l.drop (p + 16) = l.drop p := by
      rw [← List.drop_drop, List.take_append_drop]
    rw [this, List.take_append_drop]
  have a1 : S.take p = B.take p := by
    refine List.ext_getElem? fun i => ?_
    rw [List.getElem?_take, List.getElem?_take]
    split
    · exact hd i (.inl (by assumption))
    · rfl
  have a2 : S.drop (p + 16) = B.drop (p + 16) := by
    refine List.ext_getElem? fun i => ?_
    rw [List.getElem?_drop, List.getElem?_drop]
    exact hd _ (.inr (by omega))
  have h' := h
  rw [e1 S, e1 B, ← a1, ← a2, runR_append, runR_append, runR_append, runR_append] at h'
  have hp1 := runR_lt (S.take p) hr
  have h2 := run_inj (S.drop (p + 16)) (runR_lt _ hp1) (runR_lt _ hp1) (fun b hb => hS b (List.mem_of_mem_drop hb)) h'
  have h3 := run16 hp1 (by rw [List.length_take, List.length_drop]; omega) (by rw [List.length_take, List.length_drop]; omega) (fun b hb => hS b (List.mem_of_mem_drop (List.mem_of_mem_take hb))) (fun b hb => hB b (List.mem_of_mem_drop (List.mem_of_mem_take hb))) h2
  rw [e1 S, e1 B, a1, a2, h3]

/- bits of bytes -/
theorem bitsOf_length (x : UInt8) : (bitsOf x).length = 8 := rfl
theorem bits_length : ∀ l : List UInt8, (bits l).length = 8 * l.length
  | [] => rfl
  | x :: l => by
    unfold bits
    rw [List.flatMap_cons, List.length_append, bitsOf_length, show (l.flatMap bitsOf).length = _ from bits_length l, List.length_cons]; omega
theorem bits_lt {l : List UInt8} {b : Nat} (h : b ∈ bits l) : b < 2 := by
  unfold bits at h
  obtain ⟨x, _, hb⟩ := List.mem_flatMap.1 h
  unfold bitsOf at hb
  obtain ⟨i, _, rfl⟩ := List.mem_map.1 hb
  omega
theorem bits_get : ∀ (l : List UInt8) (q t : Nat), t < 8 → (bits l)[8 * q + t]? = (l[q]?).map fun x => x.toNat / 2 ^ (7 - t) % 2
  | [], q, t, _ => by simp [bits]
  | x :: l, 0, t, ht => by
    unfold bits
    rw [List.flatMap_cons, List.getElem?_append_left (by rw [bitsOf_length]; omega)]
    unfold bitsOf
    simp [ht]
  | x :: l, q + 1, t, ht => by
    have ih := bits_get l q t ht
    unfold bits at ih ⊢
    rw [List.flatMap_cons, List.getElem?_append_right (by rw [bitsOf_length]; omega), bitsOf_length, show 8 * (q + 1) + t - 8 = 8 * q + t from by omega, ih]
    simp
theorem bitsOf_inj {x y : UInt8} (h : ∀ t, t < 8 → x.toNat / 2 ^ (7 - t) % 2 = y.toNat / 2 ^ (7 - t) % 2) : x = y := by
  refine UInt8.toNat_inj.1 ?_
  have hx := x.toNat_lt
  have hy := y.toNat_lt
  have h0 := h 0 (by decide)
  have h1 := h 1 (by decide)
  have h2 := h 2 (by decide)
  have h3 := h 3 (by decide)
  have h4 := h 4 (by decide)
  have h5 := h 5 (by decide)
  have h6 := h 6 (by decide)
  have h7 := h 7 (by decide)
  simp only [Nat.sub_zero, Nat.reduceSub, Nat.reducePow] at h0 h1 h2 h3 h4 h5 h6 h7
  omega
theorem bits_inj {s b : List UInt8} (hl : b.length = s.length) (h : bits s = bits b) : s = b := by
  refine List.ext_getElem (by omega) fun q h1 h2 => ?_
  refine bitsOf_inj fun t ht => ?_
  have e := bits_get s q t ht
  rw [h, bits_get b q t ht, List.getElem?_eq_getElem h1, List.getElem?_eq_getElem h2] at e
  simpa using e.symm

/-- bytes that end with their check sum come to nothing. -/
theorem run_own {r : Nat} (hr : r < 65536) : runR r (bits [UInt8.ofNat (r / 256), UInt8.ofNat (r % 256)]) = 0 := by
  have key : ∀ k, k ≤ 16 → runR r ((List.range k).map fun i => r / 2 ^ (15 - i) % 2) = r * 2 ^ k % 65536 := by
    intro k
    induction k with
    | zero => intro _; show r = _; omega
    | succ k ih =>
      intro hk
      rw [List.range_succ, List.map_append, runR_append, ih (by omega)]
      show stepR _ (r / 2 ^ (15 - k) % 2) = _
      have hx : r * 2 ^ k % 65536 / 32768 = r / 2 ^ (15 - k) % 2 := by
        have e1 : (65536 : Nat) = 2 ^ k * 2 ^ (16 - k) := by
          rw [← Nat.pow_add, show k + (16 - k) = 16 from by omega]
        have e2 : (32768 : Nat) = 2 ^ k * 2 ^ (15 - k) := by
          rw [← Nat.pow_add, show k + (15 - k) = 15 from by omega]
        rw [Nat.mul_comm r, e1, Nat.mul_mod_mul_left, e2, Nat.mul_div_mul_left _ _ (Nat.two_pow_pos k), show 16 - k = (15 - k) + 1 from by omega, Nat.pow_succ, Nat.mod_mul_right_div_self]
      unfold stepR
      rw [if_pos hx]
      have e3 : r * 2 ^ (k + 1) = r * 2 ^ k * 2 := by rw [Nat.pow_succ, Nat.mul_assoc]
      rw [e3]
      omega
  have hb : bits [UInt8.ofNat (r / 256), UInt8.ofNat (r % 256)] = (List.range 16).map fun i => r / 2 ^ (15 - i) % 2 := by
    have h1 : (UInt8.ofNat (r / 256)).toNat = r / 256 := by rw [UInt8.toNat_ofNat', Nat.mod_eq_of_lt (by omega)]
    have h2 : (UInt8.ofNat (r % 256)).toNat = r % 256 := by rw [UInt8.toNat_ofNat', Nat.mod_eq_of_lt (by omega)]
    refine List.ext_getElem? fun i => ?_
    by_cases hi : i < 16
    · have e : i = 8 * (i / 8) + i % 8 := by omega
      rw [e, bits_get _ _ _ (by omega), ← e]
      rw [List.getElem?_map, List.getElem?_range hi]
      by_cases h8 : i < 8
      · rw [show i / 8 = 0 from by omega, show i % 8 = i from by omega]
        simp only [List.getElem?_cons_zero, Option.map_some, h1]
        rw [Nat.div_div_eq_div_mul, show 256 * 2 ^ (7 - i) = 2 ^ (15 - i) from by rw [show (256 : Nat) = 2 ^ 8 from rfl, ← Nat.pow_add]; congr 1; omega]
      · rw [show i / 8 = 1 from by omega, show i % 8 = i - 8 from by omega]
        simp only [List.getElem?_cons_succ, List.getElem?_cons_zero, Option.map_some, h2]
        have h15 : 15 - i < 8 := by omega
        have h7 : 7 - (i - 8) = 15 - i := by omega
        rw [h7]
        congr 1
        generalize 15 - i = j at h15
        have e4 : (256 : Nat) = 2 ^ j * 2 ^ (8 - j) := by rw [← Nat.pow_add, show j + (8 - j) = 8 from by omega]
        rw [e4, Nat.mod_mul_right_div_self, show 8 - j = (7 - j) + 1 from by omega, Nat.pow_succ, Nat.mul_comm, Nat.mod_mul_right_mod]
    · rw [List.getElem?_eq_none (by rw [bits_length]; show 8 * 2 ≤ i; omega), List.getElem?_eq_none (by simp; omega)]
  rw [hb, key 16 (Nat.le_refl _)]
  omega

theorem bits_append (l l' : List UInt8) : bits (l ++ l') = bits l ++ bits l' := by unfold bits; rw [List.flatMap_append]
theorem good_run {s : List UInt8} (h : goodB s) : runR 65535 (bits s) = 0 := by
  unfold goodB at h
  have e : s = s.take (s.length - 2) ++ sumB (s.take (s.length - 2)) := by rw [h, List.take_append_drop]
  rw [e, bits_append, runR_append, ← crc_run]
  exact run_own (crc_lt _)
theorem seal_good (t : List UInt8) : goodB (sealB t) := by
  unfold goodB sealB
  have hl : (t ++ sumB t).length - 2 = t.length := by simp [sumB]
  rw [hl, List.take_left, List.drop_left]

/-- whatever is changed within sixteen bits is found. -/
theorem damage_law {s b : List UInt8} {p : Nat} (hs : goodB s) (hl : b.length = s.length) (hp : p + 16 ≤ 8 * s.length)
    (hd : ∀ q t x y, s[q]? = some x → b[q]? = some y → t < 8 → (8 * q + t < p ∨ p + 16 ≤ 8 * q + t) → x.toNat / 2 ^ (7 - t) % 2 = y.toNat / 2 ^ (7 - t) % 2) (hne : b ≠ s) : ¬ goodB b := by
  intro hb
  refine hne (bits_inj hl ?_).symm
  refine burst (p := p) (r := 65535) (by decide) (by rw [bits_length, bits_length, hl]) (by rw [bits_length]; exact hp) (fun _ h => bits_lt h) (fun _ h => bits_lt h) (fun i hi => ?_) (by rw [good_run hs, good_run hb])
  have e : i = 8 * (i / 8) + i % 8 := by omega
  rw [e, bits_get _ _ _ (by omega), bits_get _ _ _ (by omega)]
  by_cases hq : i / 8 < s.length
  · have h1 := List.getElem?_eq_getElem hq
    have h2 := List.getElem?_eq_getElem (show i / 8 < b.length by omega)
    rw [h1, h2]
    simp only [Option.map_some]
    rw [hd (i / 8) (i % 8) _ _ h1 h2 (by omega) (by omega)]
  · rw [List.getElem?_eq_none (by omega), List.getElem?_eq_none (by omega)]

end A
end Go.Proofs.YtcohlhplpogopaaGreat

namespace Go.Proofs.YtcohlhplpogopaaGreat
namespace A

abbrev u32 (n : Int) : V := .lit (.int .u32 n)

theorem letter_short {l : PL} (hx : properB l = true) : (letterB l).length ≤ 80000 := by
  unfold properB at hx
  rw [Bool.and_eq_true] at hx
  obtain ⟨hx1, hx2⟩ := hx
  obtain ⟨m1, m2⟩ := messageB_and hx2
  have k1 := OKD.name (k := 49999999999) okd_nil (nameB_chan hx1)
  have k2 := OKD.vals (k := 49999999995) (l := l.vals) (k1.mono (by omega)) (by have : most = 1000000 := rfl; omega) m2
  change OKD (wletter l) _ at k2
  have hlen := k2.1
  unfold Room at hlen
  unfold letterB endB sealB headB
  have := numB_ten (n := (wletter l).1.length) (by omega)
  have := names_length k2.2
  simp only [List.length_append, List.length_cons, sumB, List.length_nil]
  omega

/-- bytes that one may damage: those of a code 0. -/
def DOK (e : Int) (s : List UInt8) : Prop := e = 0 → 3 ≤ s.length → goodB s ∧ s.length ≤ 80000
theorem bytesV_ok (x : PX) : ∃ s e, bytesV x = .tup [str s, int e] ∧ DOK e s := by
  unfold bytesV
  cases fineB x with
  | false => exact ⟨[], 2, rfl, fun h => by cases h⟩
  | true =>
    rw [if_pos rfl]
    by_cases h : 80000 < (bytesB x).length
    · rw [if_pos h]; exact ⟨[], 3, rfl, fun h => by cases h⟩
    · rw [if_neg h]; exact ⟨_, 0, rfl, fun _ _ => ⟨seal_good _, by omega⟩⟩
theorem letterV_ok (l : PL) : ∃ s e, letterV l = .tup [str s, int e] ∧ DOK e s := by
  unfold letterV
  cases h : properB l with
  | false => exact ⟨[], 2, rfl, fun h => by cases h⟩
  | true => rw [if_pos rfl]; exact ⟨_, 0, rfl, fun _ _ => ⟨seal_good _, letter_short h⟩⟩

/- the changed bits, in three bytes -/
def posK (at' n : Nat) : Nat := at' % (8 * n - 15) / 8
def posS (at' n : Nat) : Nat := at' % (8 * n - 15) % 8
def flip (w s : Nat) (j : Nat) : Nat := w * 256 / 2 ^ s / 2 ^ (8 * (2 - j)) % 256
theorem flip_lt (w s j : Nat) : flip w s j < 256 := Nat.mod_lt _ (by decide)

theorem xor_bit {x y j : Nat} (h : y / 2 ^ j % 2 = 0) : (x ^^^ y) / 2 ^ j % 2 = x / 2 ^ j % 2 := by
  have e : ∀ z : Nat, (z.testBit j).toNat = z / 2 ^ j % 2 := fun z => Nat.toNat_testBit z j
  rw [← e, ← e, Nat.testBit_xor]
  have : y.testBit j = false := by
    have h2 := e y
    rw [h] at h2
    cases hb : y.testBit j with
    | false => rfl
    | true => rw [hb] at h2; cases h2
  rw [this, Bool.xor_false]

/-- outside of sixteen places nothing changes. -/
theorem flip_out {w s j t : Nat} (hw : w < 65536) (hs : s < 8) (hj : j < 3) (ht : t < 8) (ho : 8 * j + t < s ∨ s + 16 ≤ 8 * j + t) : flip w s j / 2 ^ (7 - t) % 2 = 0 := by
  unfold flip
  have e1 : w * 256 / 2 ^ s = w * 2 ^ (8 - s) := by
    rw [show (256 : Nat) = 2 ^ (8 - s) * 2 ^ s from by rw [← Nat.pow_add, show 8 - s + s = 8 from by omega], ← Nat.mul_assoc, Nat.mul_div_cancel _ (Nat.two_pow_pos s)]
  rw [e1]
  have e2 : ∀ z : Nat, z % 256 / 2 ^ (7 - t) % 2 = z / 2 ^ (7 - t) % 2 := by
    intro z
    have h7 : 7 - t < 8 := by omega
    generalize 7 - t = i at h7
    have e4 : (256 : Nat) = 2 ^ i * 2 ^ (8 - i) := by rw [← Nat.pow_add, show i + (8 - i) = 8 from by omega]
    rw [e4, Nat.mod_mul_right_div_self, show 8 - i = (7 - i) + 1 from by omega, Nat.pow_succ, Nat.mul_comm, Nat.mod_mul_right_mod]
  rw [e2, Nat.div_div_eq_div_mul, ← Nat.pow_add]
  rcases ho with ho | ho
  · -- above the bits
    have hlt : w * 2 ^ (8 - s) < 2 ^ (8 * (2 - j) + (7 - t)) := by
      have h1 : w * 2 ^ (8 - s) < 2 ^ 16 * 2 ^ (8 - s) := Nat.mul_lt_mul_of_pos_right hw (Nat.two_pow_pos _)
      rw [← Nat.pow_add] at h1
      exact Nat.lt_of_lt_of_le h1 (Nat.pow_le_pow_right (by decide) (by omega))
    rw [Nat.div_eq_of_lt hlt]
  · -- below the bits
    have hj2 : j = 2 := by omega
    subst hj2
    rw [show 8 - s = (8 * (2 - 2) + (7 - t)) + 1 + (7 - s - (7 - t)) from by omega, Nat.pow_add, Nat.pow_succ]
    generalize 2 ^ (8 * (2 - 2) + (7 - t)) = a at *
    generalize 2 ^ (7 - s - (7 - t)) = b at *
    by_cases ha : a = 0
    · subst ha; simp
    · rw [show w * (a * 2 * b) = (w * b * 2) * a from by
        rw [Nat.mul_comm a 2, Nat.mul_assoc 2 a b, Nat.mul_comm a b, ← Nat.mul_assoc 2 b a, ← Nat.mul_assoc w, Nat.mul_comm 2 b, ← Nat.mul_assoc w b 2], Nat.mul_div_cancel _ (Nat.pos_of_ne_zero ha)]
      omega

/-- bytes of which some have been changed. -/
def Flipped (s cs : List UInt8) (k w sh i : Nat) : Prop :=
  cs.length = s.length ∧ ∀ (q : Nat) x, s[q]? = some x → ∃ y, cs[q]? = some y ∧ y.toNat = x.toNat ^^^ (if k ≤ q ∧ q < k + i then flip w sh (q - k) else 0)
theorem Flipped.zero (s : List UInt8) (k w sh : Nat) : Flipped s s k w sh 0 :=
  ⟨rfl, fun q x hx => ⟨x, hx, by rw [if_neg (by omega), Nat.xor_zero]⟩⟩
theorem Flipped.skip {s cs : List UInt8} {k w sh i : Nat} (h : Flipped s cs k w sh i) (hk : s.length ≤ k + i) : Flipped s cs k w sh (i + 1) := by
  refine ⟨h.1, fun q x hx => ?_⟩
  obtain ⟨y, h1, h2⟩ := h.2 q x hx
  refine ⟨y, h1, ?_⟩
  rw [h2]
  have := (List.getElem?_eq_some_iff.1 hx).1
  by_cases e : k ≤ q ∧ q < k + i
  · rw [if_pos e, if_pos (by omega)]
  · rw [if_neg e, if_neg (by omega)]
theorem Flipped.step {s cs : List UInt8} {k w sh i : Nat} {c : UInt8} (h : Flipped s cs k w sh i) (hc : cs[k + i]? = some c) {c' : UInt8} (hc' : c'.toNat = c.toNat ^^^ flip w sh i) : Flipped s (cs.set (k + i) c') k w sh (i + 1) := by
  refine ⟨by rw [List.length_set]; exact h.1, fun q x hx => ?_⟩
  obtain ⟨y, h1, h2⟩ := h.2 q x hx
  have hlt := (List.getElem?_eq_some_iff.1 hc).1
  by_cases e : k + i = q
  · subst e
    refine ⟨c', by rw [List.getElem?_set_self hlt], ?_⟩
    rw [hc] at h1; cases h1
    rw [hc', h2, if_neg (by omega), Nat.xor_zero, if_pos (by omega), Nat.add_sub_cancel_left]
  · refine ⟨y, by rw [List.getElem?_set_ne e]; exact h1, ?_⟩
    rw [h2]
    by_cases e2 : k ≤ q ∧ q < k + i
    · rw [if_pos e2, if_pos (by omega)]
    · rw [if_neg e2, if_neg (by omega)]

theorem flipped_bad {s cs : List UInt8} {at' w : Nat} (hs : goodB s) (h3 : 3 ≤ s.length) (hw : w < 65536) (h : Flipped s cs (posK at' s.length) w (posS at' s.length) 3) (hne : cs ≠ s) : ¬ goodB cs := by
  have hp : at' % (8 * s.length - 15) < 8 * s.length - 15 := Nat.mod_lt _ (by omega)
  refine damage_law (p := at' % (8 * s.length - 15)) hs h.1 (by omega) (fun q t x y hx hy ht ho => ?_) hne
  obtain ⟨y', h1, h2⟩ := h.2 q x hx
  rw [hy] at h1; cases h1
  rw [h2]
  split
  · rename_i e
    refine (xor_bit (flip_out hw (Nat.mod_lt _ (by decide)) (by omega) ht ?_)).symm
    unfold posK at e
    unfold posK
    omega
  · rw [Nat.xor_zero]

/- more arithmetic -/
theorem remN {a b : Nat} (hb : 0 < b) : ar .rem (int a) (int b) = some (int ((a % b : Nat) : Int)) := by
  rw [ar_int _ _ _ _ rfl]
  show cond (eqI b 0) none (some (litI .i64 ((a : Int).tmod b))) = _
  rw [show eqI (b : Int) 0 = false from by rw [eqI_eq]; simp; omega]
  rfl
theorem quoN {a b : Nat} (hb : 0 < b) (ha : a < 9223372036854775808) : ar .quo (int a) (int b) = some (int ((a / b : Nat) : Int)) := by
  rw [ar_int _ _ _ _ rfl]
  show cond (eqI b 0) none (some (litI .i64 (wrapK .i64 ((a : Int).tdiv b)))) = _
  rw [wrapK_eq, show eqI (b : Int) 0 = false from by rw [eqI_eq]; simp; omega]
  show some (int (IntKind.i64.wrap ((a / b : Nat) : Int))) = _
  have := Nat.div_le_self a b
  generalize a / b = c at *
  rw [wrap64_in (by omega) (by omega)]
theorem shl8 {n : Nat} (h : n < 65536) : ar .shl (u32 n) (.lit (.int .u64 8)) = some (u32 ((n * 256 : Nat) : Int)) := by
  show some (litI .u32 (wrapK .u32 (Int.mul (n : Int) (2 ^ (Nat.min 8 32))))) = _
  rw [wrapK_eq]
  have : Int.mul (n : Int) (2 ^ (Nat.min 8 32)) = ((n * 256 : Nat) : Int) := by
    show (n : Int) * 256 = _
    omega
  rw [this]
  have e : IntKind.u32.wrap ((n * 256 : Nat) : Int) = ((n * 256 : Nat) : Int) := by
    simp [IntKind.wrap, IntKind.bits, IntKind.signed]; omega
  rw [e]; rfl
theorem wrap32 {n : Nat} (hn : n < 65536) : IntKind.u32.wrap (n : Int) = n := by
  simp [IntKind.wrap, IntKind.bits, IntKind.signed]; omega
theorem xor8 {a b : Nat} (ha : a < 256) (hb : b < 256) : ar .xor (u8 a) (u8 b) = some (u8 ((a ^^^ b : Nat) : Int)) := by
  rw [ar_int _ _ _ _ rfl]
  show some (litI .u8 (wrapK .u8 (Int.ofNat (Nat.xor (toU .u8 (a : Int)) (toU .u8 (b : Int)))))) = _
  rw [wrapK_eq, toU8_nat ha, toU8_nat hb]
  show some (u8 (IntKind.u8.wrap ((a ^^^ b : Nat) : Int))) = _
  rw [wrap8 (Nat.xor_lt_two_pow (n := 8) ha hb)]

theorem len_slc (b off n es : Nat) (c : Option Nat) (h : H) : cond (isNK .slc (.slc b off n es c)) (lenV (.slc b off n es c) h) none = some (int n, h) := rfl
theorem idx_slc {b n es i : Nat} {c : Option Nat} {h : H} {o : Obj} (hg : h.get b = some o) (hi : i < n) : idxAV es (.slc b 0 n es c) (some i) h = some (.ptr b (i * es), h) := by
  show cond (and (Nat.blt i n) (Nat.beq es es)) (ifHas (h.get b) (.ptr b (0 + i * es)) h) none = _
  rw [Nat.beq_refl, show Nat.blt i n = true from Nat.ble_eq_true_of_le hi, hg, Nat.zero_add]; rfl
theorem wr_byte {cs : List UInt8} {q : Nat} (hq : q < cs.length) (c : UInt8) : wr (cs.map byteV) q [byteV c] = (cs.set q c).map byteV := by
  rw [wr_eq _ _ _ (by rw [List.length_map]; exact hq), List.set_eq_take_append_cons_drop, if_pos hq, List.map_append, List.map_cons, List.map_take, List.map_drop, List.append_assoc]; rfl
theorem fill_u8t (a b c : Int) : fillP 0 1 (V.cells (u8 a)) [.lit (.int .u8 0), .lit (.int .u8 0), .lit (.int .u8 0)] (fun l => fillP 1 1 (V.cells (u8 b)) l (fun l => fillP 2 1 (V.cells (u8 c)) l (fun l => some l))) = some [u8 a, u8 b, u8 c] := rfl
theorem lits_three {es : Nat} {c : List V} {h : H} (ha : allAtoms c = true) : litsL es 3 (some c) h = some (.slc h.next 0 3 es (some 3), h.new (.cells c)) := by
  show cond (allAtoms c) (some (_, _)) none = _
  rw [ha]; rfl

end A
end Go.Proofs.YtcohlhplpogopaaGreat

namespace Go.Proofs.YtcohlhplpogopaaGreat
namespace A

def xorBody : C :=
  .seq (.reg [⟨some 116, .mov (.t 114), none⟩, ⟨some 117, .idxA 1 (.t 112) (.t 114), none⟩, ⟨some 118, .load none (.t 117), none⟩, ⟨some 18, .mov (.t 116), none⟩, ⟨some 19, .mov (.t 118), none⟩])
    (.seq (.reg [⟨some 119, .mov (.t 16), none⟩, ⟨some 120, .mov (.t 18), none⟩, ⟨some 121, .ar .add (.t 119) (.t 120), none⟩, ⟨some 122, .mov (.t 15), none⟩, ⟨some 123, .len .slc (.t 122), none⟩, ⟨some 124, .ar .lss (.t 121) (.t 123), none⟩])
      (.cond (.t 124)
        (.reg [⟨some 125, .mov (.t 15), none⟩, ⟨some 126, .mov (.t 16), none⟩, ⟨some 127, .mov (.t 18), none⟩, ⟨some 128, .ar .add (.t 126) (.t 127), none⟩, ⟨some 129, .idxA 1 (.t 125) (.t 128), none⟩, ⟨some 130, .load none (.t 129), none⟩, ⟨some 131, .mov (.t 19), none⟩, ⟨some 132, .ar .xor (.t 130) (.t 131), none⟩, ⟨some 133, .idxA 1 (.t 125) (.t 128), none⟩, ⟨none, .store 1 (.t 133) (.t 132), none⟩])
        .skip))
def dmgEnd : C :=
  .seq (.seq (.reg [⟨some 135, .mov (.t 15), none⟩, ⟨some 136, .bstr (.t 135), none⟩, ⟨some 137, .mov (.t 14), none⟩, ⟨some 138, .ar .eql (.t 136) (.t 137), none⟩]) (.cond (.t 138) (.exit 1) .skip))
    (.seq (.seq (.reg [⟨some 140, .mov (.t 15), none⟩, ⟨some 141, .bstr (.t 140), none⟩, ⟨some 142, .call (.c (.fn (.func 19) [] [])) [.t 141], none⟩, ⟨some 139, .mov (.t 142), none⟩, ⟨some 143, .ext (.t 139) 0, none⟩, ⟨some 144, .ext (.t 139) 1, none⟩, ⟨some 20, .alloc [.lit (.slice none 0 0), .lit (.slice none 0 0), .lit (.slice none 0 0)], none⟩, ⟨none, .store 3 (.t 20) (.t 143), none⟩, ⟨some 21, .mov (.t 144), none⟩])
        (.seq (.reg [⟨some 145, .mov (.t 21), none⟩, ⟨some 146, .ar .neq (.t 145) (.c (.lit (.int .i64 4))), none⟩]) (.cond (.t 146) (.seq (.reg [⟨some 8, .mov (.c (.lit (.bool false))), none⟩]) .ret) .skip)))
      (.seq (.reg [⟨some 148, .mov (.t 15), none⟩, ⟨some 149, .bstr (.t 148), none⟩, ⟨some 150, .call (.c (.fn (.func 20) [] [])) [.t 149], none⟩, ⟨some 147, .mov (.t 150), none⟩, ⟨some 151, .ext (.t 147) 0, none⟩, ⟨some 152, .ext (.t 147) 1, none⟩, ⟨some 22, .alloc [.lit (.int .i64 0), .lit (.slice none 0 0)], none⟩, ⟨none, .store 2 (.t 22) (.t 151), none⟩, ⟨some 23, .mov (.t 152), none⟩])
        (.seq (.reg [⟨some 153, .mov (.t 23), none⟩, ⟨some 154, .ar .neq (.t 153) (.c (.lit (.int .i64 4))), none⟩]) (.cond (.t 154) (.seq (.reg [⟨some 8, .mov (.c (.lit (.bool false))), none⟩]) .ret) .skip))))
def dmgPos : List (Part × CO) := [(.pure, ⟨some 76, .mov (.t 2), none⟩), (.pure, ⟨some 77, .conv .i64 (.t 76), none⟩), (.pure, ⟨some 78, .mov (.t 15), none⟩), (.read 0 0, ⟨some 79, .len .slc (.t 78), none⟩), (.pure, ⟨some 80, .ar .mul (.c (.lit (.int .i64 8))) (.t 79), none⟩), (.pure, ⟨some 81, .ar .sub (.t 80) (.c (.lit (.int .i64 15))), none⟩), (.pure, ⟨some 82, .ar .rem (.t 77) (.t 81), none⟩), (.pure, ⟨some 83, .ar .quo (.t 82) (.c (.lit (.int .i64 8))), none⟩),
  (.pure, ⟨some 84, .mov (.t 2), none⟩), (.pure, ⟨some 85, .conv .i64 (.t 84), none⟩), (.pure, ⟨some 86, .mov (.t 15), none⟩), (.read 0 0, ⟨some 87, .len .slc (.t 86), none⟩), (.pure, ⟨some 88, .ar .mul (.c (.lit (.int .i64 8))) (.t 87), none⟩), (.pure, ⟨some 89, .ar .sub (.t 88) (.c (.lit (.int .i64 15))), none⟩), (.pure, ⟨some 90, .ar .rem (.t 85) (.t 89), none⟩), (.pure, ⟨some 91, .ar .rem (.t 90) (.c (.lit (.int .i64 8))), none⟩), (.pure, ⟨some 16, .mov (.t 83), none⟩), (.pure, ⟨some 17, .mov (.t 91), none⟩)]
def dmgBits : List (Part × CO) := [(.pure, ⟨some 92, .mov (.t 3), none⟩), (.pure, ⟨some 93, .conv .u32 (.t 92), none⟩), (.pure, ⟨some 94, .ar .shl (.t 93) (.c (.lit (.int .u64 8))), none⟩), (.pure, ⟨some 95, .mov (.t 17), none⟩), (.pure, ⟨some 96, .ar .shr (.t 94) (.t 95), none⟩), (.pure, ⟨some 97, .ar .shr (.t 96) (.c (.lit (.int .u64 16))), none⟩), (.pure, ⟨some 98, .conv .u8 (.t 97), none⟩),
  (.pure, ⟨some 99, .mov (.t 3), none⟩), (.pure, ⟨some 100, .conv .u32 (.t 99), none⟩), (.pure, ⟨some 101, .ar .shl (.t 100) (.c (.lit (.int .u64 8))), none⟩), (.pure, ⟨some 102, .mov (.t 17), none⟩), (.pure, ⟨some 103, .ar .shr (.t 101) (.t 102), none⟩), (.pure, ⟨some 104, .ar .shr (.t 103) (.c (.lit (.int .u64 8))), none⟩), (.pure, ⟨some 105, .conv .u8 (.t 104), none⟩),
  (.pure, ⟨some 106, .mov (.t 3), none⟩), (.pure, ⟨some 107, .conv .u32 (.t 106), none⟩), (.pure, ⟨some 108, .ar .shl (.t 107) (.c (.lit (.int .u64 8))), none⟩), (.pure, ⟨some 109, .mov (.t 17), none⟩), (.pure, ⟨some 110, .ar .shr (.t 108) (.t 109), none⟩), (.pure, ⟨some 111, .conv .u8 (.t 110), none⟩),
  (.made, ⟨some 112, .lits 1 3 [.lit (.int .u8 0), .lit (.int .u8 0), .lit (.int .u8 0)] [(0, 1, .t 98), (1, 1, .t 105), (2, 1, .t 111)], none⟩), (.read 0 0, ⟨some 113, .len .slc (.t 112), none⟩), (.pure, ⟨some 114, .mov (.c (.lit (.int .i64 0))), none⟩)]
def dmgRest : C :=
  .seq (.reg [⟨some 74, .mov (.t 14), none⟩, ⟨some 75, .strb (.t 74), none⟩, ⟨some 15, .mov (.t 75), none⟩])
    (.seq (.regD dmgPos) (.seq (.seq (.regD dmgBits) (rangeLoop 2 3 115 114 113 134 xorBody)) dmgEnd))
def dmgTest : List CO := [⟨some 55, .mov (.t 13), none⟩, ⟨some 56, .ar .eql (.t 55) (.c (.lit (.int .i64 0))), none⟩, ⟨some 57, .mov (.t 56), none⟩, ⟨some 58, .mov (.t 10), some (57, true)⟩, ⟨some 59, .ar .neq (.t 58) (.c (.lit (.int .i64 0))), some (57, true)⟩, ⟨some 60, .pick (.t 57) (.t 59) (.c (.lit (.bool false))), none⟩, ⟨some 61, .mov (.t 60), none⟩,
  ⟨some 62, .mov (.t 13), some (61, false)⟩, ⟨some 63, .ar .eql (.t 62) (.c (.lit (.int .i64 1))), some (61, false)⟩, ⟨some 64, .mov (.t 63), some (61, false)⟩, ⟨some 65, .mov (.t 12), some (64, true)⟩, ⟨some 66, .ar .neq (.t 65) (.c (.lit (.int .i64 0))), some (64, true)⟩, ⟨some 67, .pick (.t 64) (.t 66) (.c (.lit (.bool false))), some (61, false)⟩, ⟨some 68, .pick (.t 61) (.c (.lit (.bool true))) (.t 67), none⟩, ⟨some 69, .mov (.t 68), none⟩,
  ⟨some 70, .mov (.t 14), some (69, false)⟩, ⟨some 71, .len .str (.t 70), some (69, false)⟩, ⟨some 72, .ar .lss (.t 71) (.c (.lit (.int .i64 3))), some (69, false)⟩, ⟨some 73, .pick (.t 69) (.c (.lit (.bool true))) (.t 72), none⟩]
def dmgBody : C :=
  .seq (.reg [⟨some 52, .mov (.t 50), none⟩, ⟨some 53, .idxA 1 (.t 48) (.t 50), none⟩, ⟨some 54, .load none (.t 53), none⟩, ⟨some 13, .mov (.t 52), none⟩, ⟨some 14, .mov (.t 54), none⟩])
    (.seq (.seq (.reg dmgTest) (.cond (.t 73) (.exit 1) .skip)) dmgRest)
theorem f5_eq : f5 = ⟨157, [.tmp 8], none, .seq (.reg [⟨some 4, .box (.t 0), none⟩, ⟨some 5, .box (.t 1), none⟩, ⟨some 8, .mov (.c (.lit (.bool false))), none⟩])
  (.seq (.seq (.reg [⟨some 24, .load (some 3) (.t 4), none⟩, ⟨some 25, .call (.c (.fn (.func 15) [] [])) [.t 24], none⟩, ⟨some 26, .mov (.t 25), none⟩, ⟨some 27, .fieldA 1 (.t 5), some (26, false)⟩, ⟨some 28, .load none (.t 27), some (26, false)⟩, ⟨some 29, .call (.c (.fn (.func 16) [] [])) [.t 28], some (26, false)⟩, ⟨some 30, .pick (.t 26) (.c (.lit (.bool true))) (.t 29), none⟩, ⟨some 31, .mov (.t 30), none⟩, ⟨some 32, .mov (.t 3), some (31, false)⟩, ⟨some 33, .ar .eql (.t 32) (.c (.lit (.int .u16 0))), some (31, false)⟩, ⟨some 34, .pick (.t 31) (.c (.lit (.bool true))) (.t 33), none⟩])
      (.cond (.t 34) (.seq (.reg [⟨some 35, .call (.c (.fn (.func 9) [] [])) [], none⟩, ⟨some 8, .mov (.t 35), none⟩]) .ret) .skip))
    (.seq (.reg [⟨some 37, .load (some 3) (.t 4), none⟩, ⟨some 38, .call (.c (.fn (.func 17) [] [])) [.t 37], none⟩, ⟨some 36, .mov (.t 38), none⟩, ⟨some 39, .ext (.t 36) 0, none⟩, ⟨some 40, .ext (.t 36) 1, none⟩, ⟨some 9, .mov (.t 39), none⟩, ⟨some 10, .mov (.t 40), none⟩])
      (.seq (.reg [⟨some 42, .load (some 2) (.t 5), none⟩, ⟨some 43, .call (.c (.fn (.func 18) [] [])) [.t 42], none⟩, ⟨some 41, .mov (.t 43), none⟩, ⟨some 44, .ext (.t 41) 0, none⟩, ⟨some 45, .ext (.t 41) 1, none⟩, ⟨some 11, .mov (.t 44), none⟩, ⟨some 12, .mov (.t 45), none⟩])
        (.seq (.seq (.reg [⟨some 46, .mov (.t 9), none⟩, ⟨some 47, .mov (.t 11), none⟩, ⟨some 48, .lits 1 2 [.lit (.string ⟨#[]⟩), .lit (.string ⟨#[]⟩)] [(0, 1, .t 46), (1, 1, .t 47)], none⟩, ⟨some 49, .len .slc (.t 48), none⟩, ⟨some 50, .mov (.c (.lit (.int .i64 0))), none⟩]) (rangeLoop 0 1 51 50 49 155 dmgBody))
          (.seq (.reg [⟨some 156, .call (.c (.fn (.func 9) [] [])) [], none⟩, ⟨some 8, .mov (.t 156), none⟩]) .ret)))))⟩ := rfl

/-- the three bytes, put in. -/
theorem xor_loop {h : H} {tm : TM} {s : List UInt8} {B Y k w sh : Nat} {Q : E → St → Prop} (hf : HF h) (hs : s.length ≤ 100000) (hk : k ≤ 100000) (hB : h.get B = some (.cells (s.map byteV))) (hY : h.get Y = some (.cells [u8 (flip w sh 0), u8 (flip w sh 1), u8 (flip w sh 2)])) (hBY : B ≠ Y)
    (t114 : tm.nth 114 = int 0) (t113 : tm.nth 113 = int 3) (t112 : tm.nth 112 = .slc Y 0 3 1 (some 3)) (t15 : tm.nth 15 = .slc B 0 s.length 1 none) (t16 : tm.nth 16 = int k)
    (hq : ∀ tm' h' cs, (∀ j, j ∈ [2, 3, 10, 12, 14, 15, 48, 49, 50] → tm'.nth j = tm.nth j) → Upd (fun b => b = B) h h' → h'.get B = some (.cells (cs.map byteV)) → Flipped s cs k w sh 3 → Q .nor ⟨tm', [], h'⟩) :
    WC sp2 fs (rangeLoop 2 3 115 114 113 134 xorBody) ⟨tm, [], h⟩ Q := by
  refine WC_range (N := 3) (J := fun i st => st.tm.nth 114 = int i ∧ st.tm.nth 113 = int ((3 : Nat) : Int) ∧ st.tm.nth 112 = .slc Y 0 3 1 (some 3) ∧ st.tm.nth 16 = int k ∧ (∀ j, j ∈ [2, 3, 10, 12, 14, 15, 48, 49, 50] → st.tm.nth j = tm.nth j) ∧ st.df = [] ∧ Upd (fun b => b = B) h st.h ∧ ∃ cs, st.h.get B = some (.cells (cs.map byteV)) ∧ Flipped s cs k w sh i) (by decide) (by decide) ?_ ?_ ?_ (by decide) ?_ ?_
  · exact ⟨t114, t113, t112, t16, fun j hj => rfl, rfl, Upd.refl hf, s, hB, Flipped.zero s k w sh⟩
  · rintro i st ⟨h1, h2, _⟩; exact ⟨h1, h2⟩
  · rintro i ⟨tm', df, hh⟩ v ⟨h1, h2, h3, h4, h5, h6⟩
    refine ⟨by simpa only [walk, WAct, natOf_int, natOf_lit, List.nil_append, List.cons_append, List.append_nil, if_true, if_false, reduceIte, Nat.reduceEqDiff, Nat.zero_add, Nat.reduceAdd] using h1, by simpa only [walk, WAct, natOf_int, natOf_lit, List.nil_append, List.cons_append, List.append_nil, if_true, if_false, reduceIte, Nat.reduceEqDiff, Nat.zero_add, Nat.reduceAdd] using h2, by simpa only [walk, WAct, natOf_int, natOf_lit, List.nil_append, List.cons_append, List.append_nil, if_true, if_false, reduceIte, Nat.reduceEqDiff, Nat.zero_add, Nat.reduceAdd] using h3, by simpa only [walk, WAct, natOf_int, natOf_lit, List.nil_append, List.cons_append, List.append_nil, if_true, if_false, reduceIte, Nat.reduceEqDiff, Nat.zero_add, Nat.reduceAdd] using h4, fun j hj => ?_, h6⟩
    have := h5 j hj
    simp only at this
    show (tm'.put 115 v).nth j = _
    rw [T.nth_put, if_neg (by rintro rfl; revert hj; decide)]; exact this
  · rintro ⟨tm', df, hh⟩ ⟨h1, h2, h3, h4, h5, h6, h7, cs, h8, h9⟩
    simp only at h6 h7 h8
    subst h6
    exact hq tm' hh cs h5 h7 h8 h9
  · rintro i ⟨tm', df, hh⟩ hi ⟨h1, h2, h3, h4, h5, h6, h7, cs, h8, h9⟩
    simp only at h1 h2 h3 h4 h5 h6 h7 h8
    subst h6
    have t15' : tm'.nth 15 = .slc B 0 s.length 1 none := by rw [h5 15 (by simp)]; exact t15
    have hY' := h7.get hf hY (Ne.symm hBY)
    have i1 := idx_slc (n := 3) (es := 1) (c := some 3) hY' hi
    rw [Nat.mul_one] at i1
    have a1 : hh.at1 (.ptr Y i) = some (u8 (flip w sh i)) := by
      rw [H.at1_ptr hY']
      rcases (show i = 0 ∨ i = 1 ∨ i = 2 by omega) with rfl | rfl | rfl <;> rfl
    have hw : IntKind.i64.wrap ((k : Int) + (i : Int)) = ((k + i : Nat) : Int) := by rw [wrap64_in (by omega) (by omega)]; rfl
    have hkeep : ∀ (tm'' : TM), (∀ j, j ∈ [2, 3, 10, 12, 14, 15, 48, 49, 50] → tm''.nth j = tm'.nth j) → ∀ a b, ∀ j, j ∈ [2, 3, 10, 12, 14, 15, 48, 49, 50] → ((tm''.put 134 a).put 114 b).nth j = tm.nth j := by
      intro tm'' hs a b j hj
      rw [T.nth_put, if_neg (by rintro rfl; revert hj; decide), T.nth_put, if_neg (by rintro rfl; revert hj; decide), hs j hj, h5 j hj]
    simp only [xorBody, walk, WAct, natOf_int, natOf_lit, List.nil_append, List.cons_append, List.append_nil, if_true, if_false, reduceIte, Nat.reduceEqDiff, Nat.zero_add, Nat.reduceAdd, h1, h2, h3, h4, i1, a1, t15', len_slc, hw, lt_nat]
    by_cases e : k + i < s.length
    · have e1 : decide (k + i < s.length) = true := by simpa using e
      have hlt : k + i < cs.length := by rw [h9.1]; exact e
      have i2 := idx_slc (n := s.length) (es := 1) (c := none) h8 e
      rw [Nat.mul_one] at i2
      have hc := List.getElem?_eq_getElem hlt
      generalize cs[k + i] = c at hc
      have a2 : hh.at1 (.ptr B (k + i)) = some (u8 ((c.toNat : Nat) : Int)) := by
        rw [H.at1_ptr h8, List.getElem?_map, hc]; rfl
      have hx := xor8 (a := c.toNat) (b := flip w sh i) c.toNat_lt (flip_lt w sh i)
      have hxl : c.toNat ^^^ flip w sh i < 256 := Nat.xor_lt_two_pow (n := 8) c.toNat_lt (flip_lt w sh i)
      have hce : V.cells (u8 ((c.toNat ^^^ flip w sh i : Nat) : Int)) = [byteV (UInt8.ofNat (c.toNat ^^^ flip w sh i))] := by rw [byteV_of _ hxl]; rfl
      have s1 := store_ptr (off := k + i) (n := 1) (xs := [byteV (UInt8.ofNat (c.toNat ^^^ flip w sh i))]) h8 rfl (by rw [List.length_map]; exact hlt) rfl (keepB_bytes rfl)
      rw [wr_byte hlt] at s1
      simp only [e1, walk, WAct, natOf_int, natOf_lit, List.nil_append, List.cons_append, List.append_nil, if_true, if_false, reduceIte, Nat.reduceEqDiff, Nat.zero_add, Nat.reduceAdd, h1, h2, h3, h4, t15', hw, i2, a2, hx, hce, s1]
      refine ⟨trivial, trivial, trivial, trivial, trivial, ?_, trivial, ?_, cs.set (k + i) (UInt8.ofNat (c.toNat ^^^ flip w sh i)), ?_, h9.step hc (by rw [UInt8.toNat_ofNat', Nat.mod_eq_of_lt hxl])⟩
      · intro j hj
        have h5j := h5 j hj
        simp only [List.mem_cons, List.not_mem_nil, or_false] at hj
        rcases hj with rfl | rfl | rfl | rfl | rfl | rfl | rfl | rfl | rfl <;> simp only [walk, WAct, natOf_int, natOf_lit, List.nil_append, List.cons_append, List.append_nil, if_true, if_false, reduceIte, Nat.reduceEqDiff, Nat.zero_add, Nat.reduceAdd, h5j]
      · have hlt2 := h7.fresh.lt h8
        exact h7.trans (Upd.set h7.fresh _ rfl hlt2)
      · rw [H.get_set, if_pos rfl]
    · have e1 : decide (k + i < s.length) = false := by simpa using e
      simp only [e1, walk, WAct, natOf_int, natOf_lit, List.nil_append, List.cons_append, List.append_nil, if_true, if_false, reduceIte, Nat.reduceEqDiff, Nat.zero_add, Nat.reduceAdd, h1, h2, h3, h4]
      refine ⟨trivial, trivial, trivial, trivial, trivial, ?_, trivial, h7, cs, h8, h9.skip (by omega)⟩
      intro j hj
      have h5j := h5 j hj
      simp only [List.mem_cons, List.not_mem_nil, or_false] at hj
      rcases hj with rfl | rfl | rfl | rfl | rfl | rfl | rfl | rfl | rfl <;> simp only [walk, WAct, natOf_int, natOf_lit, List.nil_append, List.cons_append, List.append_nil, if_true, if_false, reduceIte, Nat.reduceEqDiff, Nat.zero_add, Nat.reduceAdd, h5j]

end A
end Go.Proofs.YtcohlhplpogopaaGreat

