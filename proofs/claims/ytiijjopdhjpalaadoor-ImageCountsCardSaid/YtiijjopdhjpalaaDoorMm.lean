/- Reading an image, in plain Lean: what follows. Conditions: none. -/
import Derived.Test.YtiijjopdhjpalaaDoorMk
/-! Reading bytes, in plain Lean: parsers, what they leave open, what they take. Conditions: none. -/
namespace Go.Proofs.YtiijjopdhjpalaaDoor
open Go
set_option linter.unusedSimpArgs false
set_option linter.unusedVariables false
inductive PR (α : Type) where
  | ok (a : α) (j : Nat)
  | bad (k : Nat) (e : Int)
abbrev Par (α : Type) := List Int → Nat → PR α
def pbind {α β : Type} (p : Par α) (f : α → Par β) : Par β := fun b i => match p b i with
  | .ok a j => f a b j
  | .bad k e => .bad k e
def ppure {α : Type} (a : α) : Par α := fun _ i => .ok a i
def pfail {α : Type} (k : Nat) (e : Int) : Par α := fun _ _ => .bad k e
def pat {α : Type} (f : Nat → Par α) : Par α := fun b i => f i b i
def pbyte : Par Int := fun b i => match b[i]? with
  | some c => .ok c (i + 1)
  | none => .bad b.length 2
def uintG (st : Nat) : Nat → Nat → Nat → Par Nat
  | 0, _, _ => fun _ _ => .bad st 4
  | f + 1, n, size => fun b i => match b[i]? with
    | none => .bad b.length 2
    | some c => if size = 9 ∧ 1 < c then .bad st 4 else
      if c < 128 then (if c = 0 ∧ 0 < size then .bad st 4 else .ok (n + c.toNat * 128 ^ size) (i + 1)) else uintG st f (n + (c.toNat - 128) * 128 ^ size) (size + 1) b (i + 1)
def puint : Par Nat := pat fun st => uintG st 10 0 0
/-- A number that may be below 0, from a folded one. -/
def unfoldZ (n : Nat) : Int := if n % 2 = 0 then ((n / 2 : Nat) : Int) else -((n / 2 : Nat) : Int) - 1
def pnumber (below e : Int) : Par Int := pat fun st => pbind puint fun n => if (n : Int) < below then ppure (n : Int) else pfail st e
def prep {α : Type} (p : Par α) : Nat → Par (List α)
  | 0 => ppure []
  | n + 1 => pbind p fun a => pbind (prep p n) fun l => ppure (a :: l)
/-! ### What they leave open -/
def GoodAt {α : Type} (lo : Nat) (p : Par α) : Prop := ∀ b i, lo ≤ i → i ≤ b.length → match p b i with
  | .ok a j => i ≤ j ∧ j ≤ b.length ∧ (∀ c, i ≤ c → c ≤ b.length → p (b.take c) i = if j ≤ c then .ok a j else .bad c 2) ∧ ∀ x, p (b ++ x) i = .ok a j
  | .bad k e => k ≤ b.length ∧ 1 ≤ e ∧ e ≤ 30 ∧ (e ≠ 2 → ∀ x, p (b ++ x) i = .bad k e)
theorem GoodAt.mono {α : Type} {lo lo' : Nat} {p : Par α} (h : GoodAt lo p) (hl : lo ≤ lo') : GoodAt lo' p := fun b i h1 h2 => h b i (by omega) h2
theorem good_pure {α : Type} {lo : Nat} (a : α) : GoodAt lo (ppure a) := fun b i h1 h2 => ⟨Nat.le_refl _, h2, fun c h3 _ => by rw [if_pos h3]; rfl, fun _ => rfl⟩
theorem good_fail {α : Type} {lo k : Nat} {e : Int} (hk : k ≤ lo) (h1 : 1 ≤ e) (h2 : e ≤ 30) : GoodAt lo (pfail k e : Par α) := fun b i h3 h4 => ⟨by omega, h1, h2, fun _ _ => rfl⟩
theorem good_at {α : Type} {lo : Nat} {f : Nat → Par α} (h : ∀ k, lo ≤ k → GoodAt k (f k)) : GoodAt lo (pat f) := fun b i h1 h2 => h i h1 b i (Nat.le_refl _) h2
theorem good_post {α β : Type} {lo : Nat} {p : Par α} {f : α → Par β} (P : α → Nat → Prop) (hp : GoodAt lo p) (hP : ∀ b i a j, lo ≤ i → i ≤ b.length → p b i = .ok a j → P a j) (hf : ∀ a k, lo ≤ k → P a k → GoodAt k (f a)) : GoodAt lo (pbind p f) := by
  intro b i h1 h2
  have h := hp b i h1 h2
  unfold pbind
  cases hr : p b i with
  | bad k e =>
    rw [hr] at h
    simp only at h ⊢
    refine ⟨h.1, h.2.1, h.2.2.1, fun h3 x => ?_⟩
    rw [h.2.2.2 h3 x]
  | ok a j =>
    rw [hr] at h
    simp only at h ⊢
    obtain ⟨a1, a2, a3, a4⟩ := h
    have g := hf a j (by omega) (hP b i a j h1 h2 hr) b j (Nat.le_refl _) a2
    cases hs : f a b j with
    | bad k e =>
      rw [hs] at g
      simp only at g ⊢
      refine ⟨g.1, g.2.1, g.2.2.1, fun h3 x => ?_⟩
      rw [a4 x]
      exact g.2.2.2 h3 x
    | ok c k =>
      rw [hs] at g
      simp only at g ⊢
      obtain ⟨c1, c2, c3, c4⟩ := g
      refine ⟨by omega, c2, fun q h3 h4 => ?_, fun x => ?_⟩
      · rw [a3 q h3 h4]
        by_cases hq : j ≤ q
        · rw [if_pos hq]
          exact c3 q hq h4
        · rw [if_neg hq, if_neg (by omega)]
      · rw [a4 x]
        exact c4 x
theorem good_bind {α β : Type} {lo : Nat} {p : Par α} {f : α → Par β} (hp : GoodAt lo p) (hf : ∀ a k, lo ≤ k → GoodAt k (f a)) : GoodAt lo (pbind p f) :=
  good_post (fun _ _ => True) hp (fun _ _ _ _ _ _ _ => trivial) fun a k h _ => hf a k h
theorem take_get {b : List Int} {i c : Nat} (h : i < c) : (b.take c)[i]? = b[i]? := List.getElem?_take_of_lt h
theorem take_none {b : List Int} {i c : Nat} (h : c ≤ i) : (b.take c)[i]? = none := List.getElem?_eq_none (by simp; omega)
theorem good_byte {lo : Nat} : GoodAt lo pbyte := by
  intro b i h1 h2
  unfold pbyte
  cases hc : b[i]? with
  | none =>
    refine ⟨Nat.le_refl _, by decide, by decide, fun h => absurd rfl h⟩
  | some c =>
    have hi := (List.getElem?_eq_some_iff.1 hc).1
    refine ⟨by omega, by omega, fun q h3 h4 => ?_, fun x => ?_⟩
    · by_cases hq : i < q
      · rw [take_get hq, hc, if_pos (by omega)]
      · rw [take_none (by omega), if_neg (by omega)]
        simp only [List.length_take]
        rw [Nat.min_eq_left h4]
    · rw [List.getElem?_append_left hi, hc]
theorem good_uintG {st : Nat} : ∀ (f n size lo : Nat), st ≤ lo → GoodAt lo (uintG st f n size)
  | 0, n, size, lo, h => fun b i h1 h2 => ⟨by omega, by decide, by decide, fun _ _ => rfl⟩
  | f + 1, n, size, lo, h => by
    intro b i h1 h2
    unfold uintG
    cases hc : b[i]? with
    | none =>
      refine ⟨Nat.le_refl _, by decide, by decide, fun h => absurd rfl h⟩
    | some c =>
      have hi := (List.getElem?_eq_some_iff.1 hc).1
      have key : ∀ x, (b ++ x)[i]? = some c := fun x => by rw [List.getElem?_append_left hi, hc]
      have kt : ∀ q, i < q → (b.take q)[i]? = some c := fun q hq => by rw [take_get hq, hc]
      have kn : ∀ q, ¬ i < q → (b.take q)[i]? = none := fun q hq => take_none (by omega)
      have kl : ∀ q, q ≤ b.length → (b.take q).length = q := fun q hq => by rw [List.length_take, Nat.min_eq_left hq]
      simp only
      by_cases c1 : size = 9 ∧ 1 < c
      · simp only [if_pos c1]
        exact ⟨by omega, by decide, by decide, fun _ x => by simp only [key x, if_pos c1]⟩
      · simp only [if_neg c1]
        by_cases c2 : c < 128
        · simp only [if_pos c2]
          by_cases c3 : c = 0 ∧ 0 < size
          · simp only [if_pos c3]
            exact ⟨by omega, by decide, by decide, fun _ x => by simp only [key x, if_neg c1, if_pos c2, if_pos c3]⟩
          · simp only [if_neg c3]
            refine ⟨by omega, by omega, fun q h3 h4 => ?_, fun x => by simp only [key x, if_neg c1, if_pos c2, if_neg c3]⟩
            by_cases hq : i < q
            · simp only [kt q hq, if_neg c1, if_pos c2, if_neg c3]
              rw [if_pos (by omega)]
            · rw [kn q hq, if_neg (by omega)]
              simp only [kl q h4]
        · simp only [if_neg c2]
          have hst : st ≤ i + 1 := by omega
          have ih := good_uintG f (n + (c.toNat - 128) * 128 ^ size) (size + 1) (i + 1) hst b (i + 1) (Nat.le_refl _) hi
          cases hr : uintG st f (n + (c.toNat - 128) * 128 ^ size) (size + 1) b (i + 1) with
          | bad k e =>
            rw [hr] at ih
            simp only at ih ⊢
            exact ⟨ih.1, ih.2.1, ih.2.2.1, fun h3 x => by simp only [key x, if_neg c1, if_neg c2]; exact ih.2.2.2 h3 x⟩
          | ok v j =>
            rw [hr] at ih
            simp only at ih ⊢
            obtain ⟨a1, a2, a3, a4⟩ := ih
            refine ⟨by omega, a2, fun q h3 h4 => ?_, fun x => by simp only [key x, if_neg c1, if_neg c2]; exact a4 x⟩
            by_cases hq : i < q
            · simp only [kt q hq, if_neg c1, if_neg c2]
              exact a3 q (by omega) h4
            · rw [kn q hq, if_neg (by omega)]
              simp only [kl q h4]
theorem good_uint {lo : Nat} : GoodAt lo puint := good_at fun k _ => good_uintG 10 0 0 k (Nat.le_refl _)
theorem good_number {lo : Nat} {below e : Int} (h1 : 1 ≤ e) (h2 : e ≤ 30) : GoodAt lo (pnumber below e) := by
  refine good_at fun k _ => good_bind good_uint fun n j hj => ?_
  split
  · exact good_pure _
  · exact good_fail hj h1 h2
theorem good_rep {α : Type} {lo : Nat} {p : Par α} (hp : GoodAt lo p) : ∀ n, GoodAt lo (prep p n)
  | 0 => good_pure _
  | n + 1 => good_bind hp fun a k hk => good_bind ((good_rep hp n).mono hk) fun l k _ => good_pure _
end Go.Proofs.YtiijjopdhjpalaaDoor

/-! Reading bytes, in plain Lean: what parsers take. Conditions: none. -/
namespace Go.Proofs.YtiijjopdhjpalaaDoor
open Go
set_option linter.unusedSimpArgs false
set_option linter.unusedVariables false
/-- From i to j the bytes l stand. -/
def Enc (b : List Int) (i : Nat) (l : List Int) (j : Nat) : Prop := j = i + l.length ∧ b.drop i = l ++ b.drop j
theorem Enc_nil {b : List Int} {i j : Nat} : Enc b i [] j ↔ j = i := by
  unfold Enc
  constructor
  · rintro ⟨h, _⟩; simpa using h
  · rintro rfl; simp
theorem Enc_app {b : List Int} {i j : Nat} {l l' : List Int} : Enc b i (l ++ l') j ↔ ∃ k, Enc b i l k ∧ Enc b k l' j := by
  unfold Enc
  constructor
  · rintro ⟨rfl, h⟩
    have h2 : b.drop (i + l.length) = l' ++ b.drop (i + (l ++ l').length) := by
      rw [← List.drop_drop, h, List.append_assoc, List.drop_left]
    exact ⟨i + l.length, ⟨rfl, by rw [h2, h, List.append_assoc]⟩, by rw [List.length_append]; omega, h2⟩
  · rintro ⟨k, ⟨rfl, h1⟩, rfl, h2⟩
    refine ⟨by rw [List.length_append]; omega, ?_⟩
    rw [h1, h2, List.append_assoc]
theorem Enc_one {b : List Int} {i j : Nat} {c : Int} : Enc b i [c] j ↔ b[i]? = some c ∧ j = i + 1 := by
  unfold Enc
  constructor
  · rintro ⟨rfl, h⟩
    refine ⟨?_, rfl⟩
    have : (b.drop i)[0]? = some c := by rw [h]; rfl
    rw [List.getElem?_drop] at this
    simpa using this
  · rintro ⟨h, rfl⟩
    obtain ⟨hi, he⟩ := List.getElem?_eq_some_iff.1 h
    exact ⟨rfl, by rw [List.drop_eq_getElem_cons hi, he]; rfl⟩
theorem Enc_cons {b : List Int} {i j : Nat} {c : Int} {l : List Int} : Enc b i (c :: l) j ↔ b[i]? = some c ∧ Enc b (i + 1) l j := by
  rw [show c :: l = [c] ++ l from rfl, Enc_app]
  constructor
  · rintro ⟨k, h1, h2⟩
    obtain ⟨h3, rfl⟩ := Enc_one.1 h1
    exact ⟨h3, h2⟩
  · rintro ⟨h1, h2⟩
    exact ⟨i + 1, Enc_one.2 ⟨h1, rfl⟩, h2⟩
theorem Enc_leb {b : List Int} {i j x : Nat} : Enc b i (lebL x) j ↔ (x < 128 ∧ b[i]? = some (x : Int) ∧ j = i + 1) ∨ (128 ≤ x ∧ b[i]? = some ((x % 128 + 128 : Nat) : Int) ∧ Enc b (i + 1) (lebL (x / 128)) j) := by
  by_cases h : x < 128
  · rw [lebL_lt h, Enc_one]
    constructor
    · exact fun g => .inl ⟨h, g⟩
    · rintro (⟨_, g⟩ | ⟨g, _⟩)
      · exact g
      · omega
  · rw [lebL_ge h, Enc_cons]
    constructor
    · exact fun g => .inr ⟨by omega, g⟩
    · rintro (⟨g, _⟩ | ⟨_, g⟩)
      · omega
      · exact g
def BB (b : List Int) : Prop := ∀ z ∈ b, 0 ≤ z ∧ z < 256
theorem BB.get {b : List Int} (h : BB b) {i : Nat} {c : Int} (hc : b[i]? = some c) : 0 ≤ c ∧ c < 256 := h c (List.mem_of_getElem? hc)
theorem bind_ok {α β : Type} {p : Par α} {f : α → Par β} {b : List Int} {i j : Nat} {c : β} : pbind p f b i = .ok c j ↔ ∃ a k, p b i = .ok a k ∧ f a b k = .ok c j := by
  unfold pbind
  cases h : p b i with
  | bad k e => simp
  | ok a k =>
    constructor
    · exact fun g => ⟨a, k, rfl, g⟩
    · rintro ⟨a', k', g, g'⟩
      injection g with g1 g2
      subst g1 g2
      exact g'
theorem pure_ok {α : Type} {a c : α} {b : List Int} {i j : Nat} : ppure a b i = .ok c j ↔ c = a ∧ j = i := by
  unfold ppure
  rw [PR.ok.injEq]
  exact ⟨fun h => ⟨h.1.symm, h.2.symm⟩, fun h => ⟨h.1.symm, h.2.symm⟩⟩
theorem fail_ok {α : Type} {k : Nat} {e : Int} {c : α} {b : List Int} {i j : Nat} : (pfail k e : Par α) b i = .ok c j ↔ False := by
  unfold pfail
  simp
theorem at_ok {α : Type} {f : Nat → Par α} {b : List Int} {i j : Nat} {c : α} : pat f b i = .ok c j ↔ f i b i = .ok c j := Iff.rfl
theorem byte_ok {b : List Int} {i j : Nat} {c : Int} : pbyte b i = .ok c j ↔ Enc b i [c] j := by
  unfold pbyte
  rw [Enc_one]
  cases h : b[i]? with
  | none => simp
  | some d =>
    simp only [PR.ok.injEq, Option.some.injEq]
    exact ⟨fun h => ⟨h.1, h.2.symm⟩, fun h => ⟨h.1, h.2.symm⟩⟩
theorem ite_ok {α : Type} {c : Prop} [Decidable c] {x y : PR α} {a : α} {j : Nat} : (if c then x else y) = .ok a j ↔ (c ∧ x = .ok a j) ∨ (¬ c ∧ y = .ok a j) := by
  by_cases h : c
  · rw [if_pos h]; exact ⟨fun g => .inl ⟨h, g⟩, fun g => g.elim (fun k => k.2) fun k => absurd h k.1⟩
  · rw [if_neg h]; exact ⟨fun g => .inr ⟨h, g⟩, fun g => g.elim (fun k => absurd k.1 h) fun k => k.2⟩
theorem uint_10 {st n i v j : Nat} {b : List Int} (hb : BB b) : uintG st 0 n 10 b i = .ok v j ↔ ∃ x, v = n + x * 1180591620717411303424 ∧ x < 0 ∧ (10 = 0 ∨ 0 < x) ∧ Enc b i (lebL x) j := by
  unfold uintG
  constructor
  · intro h; cases h
  · rintro ⟨x, _, h, h2, _⟩
    omega
theorem uint_9 {st n i v j : Nat} {b : List Int} (hb : BB b) : uintG st 1 n 9 b i = .ok v j ↔ ∃ x, v = n + x * 9223372036854775808 ∧ x < 2 ∧ (9 = 0 ∨ 0 < x) ∧ Enc b i (lebL x) j := by
  unfold uintG
  cases hc : b[i]? with
  | none =>
    constructor
    · intro h; cases h
    · rintro ⟨x, _, _, _, h⟩
      rw [Enc_leb, hc] at h
      rcases h with ⟨_, h, _⟩ | ⟨_, h, _⟩ <;> cases h
  | some c =>
    have hcb := hb.get hc
    have back : ∀ x, Enc b i (lebL x) j → (x < 128 ∧ c = x ∧ j = i + 1) ∨ (128 ≤ x ∧ c = ((x % 128 + 128 : Nat) : Int) ∧ Enc b (i + 1) (lebL (x / 128)) j) := fun x h => by
      rcases Enc_leb.1 h with ⟨h1, h2, h3⟩ | ⟨h1, h2, h3⟩
      · rw [hc] at h2
        injection h2 with h2
        exact .inl ⟨h1, h2, h3⟩
      · rw [hc] at h2
        injection h2 with h2
        exact .inr ⟨h1, h2, h3⟩
    dsimp only
    by_cases c1 : 9 = 9 ∧ 1 < c
    · rw [if_pos c1]
      constructor
      · intro h; cases h
      · rintro ⟨x, hv, hx, hp, he⟩
        rcases back x he with ⟨h1, h2, h3⟩ | ⟨h1, h2, h3⟩ <;> (exfalso; omega)
    · rw [if_neg c1]
      by_cases c2 : c < 128
      · rw [if_pos c2]
        by_cases c3 : c = 0 ∧ 0 < 9
        · rw [if_pos c3]
          constructor
          · intro h; cases h
          · rintro ⟨x, hv, hx, hp, he⟩
            rcases back x he with ⟨h1, h2, h3⟩ | ⟨h1, h2, h3⟩ <;> (exfalso; omega)
        · rw [if_neg c3, PR.ok.injEq]
          simp only [Nat.reducePow]
          constructor
          · rintro ⟨h1, h2⟩
            refine ⟨c.toNat, by omega, by omega, (by first | exact .inl rfl | exact .inl trivial | omega), Enc_leb.2 (.inl ⟨by omega, ?_, by omega⟩)⟩
            rw [hc]
            congr 1
            omega
          · rintro ⟨x, hv, hx, hp, he⟩
            rcases back x he with ⟨h1, h2, h3⟩ | ⟨h1, h2, h3⟩
            · exact ⟨by omega, by omega⟩
            · exfalso; omega
      · rw [if_neg c2]
        simp only [Nat.reducePow]
        refine (uint_10 hb).trans ?_
        constructor
        · rintro ⟨x, hv, hx, hp, he⟩
          refine ⟨(c.toNat - 128) + 128 * x, by omega, by omega, (by first | exact .inl rfl | exact .inl trivial | omega), Enc_leb.2 (.inr ⟨by omega, ?_, ?_⟩)⟩
          · rw [hc]
            congr 1
            omega
          · rw [show ((c.toNat - 128) + 128 * x) / 128 = x by omega]
            exact he
        · rintro ⟨x, hv, hx, hp, he⟩
          rcases back x he with ⟨h1, h2, h3⟩ | ⟨h1, h2, h3⟩
          · exfalso; omega
          · exact ⟨x / 128, by omega, by omega, (by first | exact .inl rfl | exact .inl trivial | omega), h3⟩
theorem uint_8 {st n i v j : Nat} {b : List Int} (hb : BB b) : uintG st 2 n 8 b i = .ok v j ↔ ∃ x, v = n + x * 72057594037927936 ∧ x < 256 ∧ (8 = 0 ∨ 0 < x) ∧ Enc b i (lebL x) j := by
  unfold uintG
  cases hc : b[i]? with
  | none =>
    constructor
    · intro h; cases h
    · rintro ⟨x, _, _, _, h⟩
      rw [Enc_leb, hc] at h
      rcases h with ⟨_, h, _⟩ | ⟨_, h, _⟩ <;> cases h
  | some c =>
    have hcb := hb.get hc
    have back : ∀ x, Enc b i (lebL x) j → (x < 128 ∧ c = x ∧ j = i + 1) ∨ (128 ≤ x ∧ c = ((x % 128 + 128 : Nat) : Int) ∧ Enc b (i + 1) (lebL (x / 128)) j) := fun x h => by
      rcases Enc_leb.1 h with ⟨h1, h2, h3⟩ | ⟨h1, h2, h3⟩
      · rw [hc] at h2
        injection h2 with h2
        exact .inl ⟨h1, h2, h3⟩
      · rw [hc] at h2
        injection h2 with h2
        exact .inr ⟨h1, h2, h3⟩
    dsimp only
    by_cases c1 : 8 = 9 ∧ 1 < c
    · rw [if_pos c1]
      constructor
      · intro h; cases h
      · rintro ⟨x, hv, hx, hp, he⟩
        rcases back x he with ⟨h1, h2, h3⟩ | ⟨h1, h2, h3⟩ <;> (exfalso; omega)
    · rw [if_neg c1]
      by_cases c2 : c < 128
      · rw [if_pos c2]
        by_cases c3 : c = 0 ∧ 0 < 8
        · rw [if_pos c3]
          constructor
          · intro h; cases h
          · rintro ⟨x, hv, hx, hp, he⟩
            rcases back x he with ⟨h1, h2, h3⟩ | ⟨h1, h2, h3⟩ <;> (exfalso; omega)
        · rw [if_neg c3, PR.ok.injEq]
          simp only [Nat.reducePow]
          constructor
          · rintro ⟨h1, h2⟩
            refine ⟨c.toNat, by omega, by omega, (by first | exact .inl rfl | exact .inl trivial | omega), Enc_leb.2 (.inl ⟨by omega, ?_, by omega⟩)⟩
            rw [hc]
            congr 1
            omega
          · rintro ⟨x, hv, hx, hp, he⟩
            rcases back x he with ⟨h1, h2, h3⟩ | ⟨h1, h2, h3⟩
            · exact ⟨by omega, by omega⟩
            · exfalso; omega
      · rw [if_neg c2]
        simp only [Nat.reducePow]
        refine (uint_9 hb).trans ?_
        constructor
        · rintro ⟨x, hv, hx, hp, he⟩
          refine ⟨(c.toNat - 128) + 128 * x, by omega, by omega, (by first | exact .inl rfl | exact .inl trivial | omega), Enc_leb.2 (.inr ⟨by omega, ?_, ?_⟩)⟩
          · rw [hc]
            congr 1
            omega
          · rw [show ((c.toNat - 128) + 128 * x) / 128 = x by omega]
            exact he
        · rintro ⟨x, hv, hx, hp, he⟩
          rcases back x he with ⟨h1, h2, h3⟩ | ⟨h1, h2, h3⟩
          · exfalso; omega
          · exact ⟨x / 128, by omega, by omega, (by first | exact .inl rfl | exact .inl trivial | omega), h3⟩
theorem uint_7 {st n i v j : Nat} {b : List Int} (hb : BB b) : uintG st 3 n 7 b i = .ok v j ↔ ∃ x, v = n + x * 562949953421312 ∧ x < 32768 ∧ (7 = 0 ∨ 0 < x) ∧ Enc b i (lebL x) j := by
  unfold uintG
  cases hc : b[i]? with
  | none =>
    constructor
    · intro h; cases h
    · rintro ⟨x, _, _, _, h⟩
      rw [Enc_leb, hc] at h
      rcases h with ⟨_, h, _⟩ | ⟨_, h, _⟩ <;> cases h
  | some c =>
    have hcb := hb.get hc
    have back : ∀ x, Enc b i (lebL x) j → (x < 128 ∧ c = x ∧ j = i + 1) ∨ (128 ≤ x ∧ c = ((x % 128 + 128 : Nat) : Int) ∧ Enc b (i + 1) (lebL (x / 128)) j) := fun x h => by
      rcases Enc_leb.1 h with ⟨h1, h2, h3⟩ | ⟨h1, h2, h3⟩
      · rw [hc] at h2
        injection h2 with h2
        exact .inl ⟨h1, h2, h3⟩
      · rw [hc] at h2
        injection h2 with h2
        exact .inr ⟨h1, h2, h3⟩
    dsimp only
    by_cases c1 : 7 = 9 ∧ 1 < c
    · rw [if_pos c1]
      constructor
      · intro h; cases h
      · rintro ⟨x, hv, hx, hp, he⟩
        rcases back x he with ⟨h1, h2, h3⟩ | ⟨h1, h2, h3⟩ <;> (exfalso; omega)
    · rw [if_neg c1]
      by_cases c2 : c < 128
      · rw [if_pos c2]
        by_cases c3 : c = 0 ∧ 0 < 7
        · rw [if_pos c3]
          constructor
          · intro h; cases h
          · rintro ⟨x, hv, hx, hp, he⟩
            rcases back x he with ⟨h1, h2, h3⟩ | ⟨h1, h2, h3⟩ <;> (exfalso; omega)
        · rw [if_neg c3, PR.ok.injEq]
          simp only [Nat.reducePow]
          constructor
          · rintro ⟨h1, h2⟩
            refine ⟨c.toNat, by omega, by omega, (by first | exact .inl rfl | exact .inl trivial | omega), Enc_leb.2 (.inl ⟨by omega, ?_, by omega⟩)⟩
            rw [hc]
            congr 1
            omega
          · rintro ⟨x, hv, hx, hp, he⟩
            rcases back x he with ⟨h1, h2, h3⟩ | ⟨h1, h2, h3⟩
            · exact ⟨by omega, by omega⟩
            · exfalso; omega
      · rw [if_neg c2]
        simp only [Nat.reducePow]
        refine (uint_8 hb).trans ?_
        constructor
        · rintro ⟨x, hv, hx, hp, he⟩
          refine ⟨(c.toNat - 128) + 128 * x, by omega, by omega, (by first | exact .inl rfl | exact .inl trivial | omega), Enc_leb.2 (.inr ⟨by omega, ?_, ?_⟩)⟩
          · rw [hc]
            congr 1
            omega
          · rw [show ((c.toNat - 128) + 128 * x) / 128 = x by omega]
            exact he
        · rintro ⟨x, hv, hx, hp, he⟩
          rcases back x he with ⟨h1, h2, h3⟩ | ⟨h1, h2, h3⟩
          · exfalso; omega
          · exact ⟨x / 128, by omega, by omega, (by first | exact .inl rfl | exact .inl trivial | omega), h3⟩
theorem uint_6 {st n i v j : Nat} {b : List Int} (hb : BB b) : uintG st 4 n 6 b i = .ok v j ↔ ∃ x, v = n + x * 4398046511104 ∧ x < 4194304 ∧ (6 = 0 ∨ 0 < x) ∧ Enc b i (lebL x) j := by
  unfold uintG
  cases hc : b[i]? with
  | none =>
    constructor
    · intro h; cases h
    · rintro ⟨x, _, _, _, h⟩
      rw [Enc_leb, hc] at h
      rcases h with ⟨_, h, _⟩ | ⟨_, h, _⟩ <;> cases h
  | some c =>
    have hcb := hb.get hc
    have back : ∀ x, Enc b i (lebL x) j → (x < 128 ∧ c = x ∧ j = i + 1) ∨ (128 ≤ x ∧ c = ((x % 128 + 128 : Nat) : Int) ∧ Enc b (i + 1) (lebL (x / 128)) j) := fun x h => by
      rcases Enc_leb.1 h with ⟨h1, h2, h3⟩ | ⟨h1, h2, h3⟩
      · rw [hc] at h2
        injection h2 with h2
        exact .inl ⟨h1, h2, h3⟩
      · rw [hc] at h2
        injection h2 with h2
        exact .inr ⟨h1, h2, h3⟩
    dsimp only
    by_cases c1 : 6 = 9 ∧ 1 < c
    · rw [if_pos c1]
      constructor
      · intro h; cases h
      · rintro ⟨x, hv, hx, hp, he⟩
        rcases back x he with ⟨h1, h2, h3⟩ | ⟨h1, h2, h3⟩ <;> (exfalso; omega)
    · rw [if_neg c1]
      by_cases c2 : c < 128
      · rw [if_pos c2]
        by_cases c3 : c = 0 ∧ 0 < 6
        · rw [if_pos c3]
          constructor
          · intro h; cases h
          · rintro ⟨x, hv, hx, hp, he⟩
            rcases back x he with ⟨h1, h2, h3⟩ | ⟨h1, h2, h3⟩ <;> (exfalso; omega)
        · rw [if_neg c3, PR.ok.injEq]
          simp only [Nat.reducePow]
          constructor
          · rintro ⟨h1, h2⟩
            refine ⟨c.toNat, by omega, by omega, (by first | exact .inl rfl | exact .inl trivial | omega), Enc_leb.2 (.inl ⟨by omega, ?_, by omega⟩)⟩
            rw [hc]
            congr 1
            omega
          · rintro ⟨x, hv, hx, hp, he⟩
            rcases back x he with ⟨h1, h2, h3⟩ | ⟨h1, h2, h3⟩
            · exact ⟨by omega, by omega⟩
            · exfalso; omega
      · rw [if_neg c2]
        simp only [Nat.reducePow]
        refine (uint_7 hb).trans ?_
        constructor
        · rintro ⟨x, hv, hx, hp, he⟩
          refine ⟨(c.toNat - 128) + 128 * x, by omega, by omega, (by first | exact .inl rfl | exact .inl trivial | omega), Enc_leb.2 (.inr ⟨by omega, ?_, ?_⟩)⟩
          · rw [hc]
            congr 1
            omega
          · rw [show ((c.toNat - 128) + 128 * x) / 128 = x by omega]
            exact he
        · rintro ⟨x, hv, hx, hp, he⟩
          rcases back x he with ⟨h1, h2, h3⟩ | ⟨h1, h2, h3⟩
          · exfalso; omega
          · exact ⟨x / 128, by omega, by omega, (by first | exact .inl rfl | exact .inl trivial | omega), h3⟩
theorem uint_5 {st n i v j : Nat} {b : List Int} (hb : BB b) : uintG st 5 n 5 b i = .ok v j ↔ ∃ x, v = n + x * 34359738368 ∧ x < 536870912 ∧ (5 = 0 ∨ 0 < x) ∧ Enc b i (lebL x) j := by
  unfold uintG
  cases hc : b[i]? with
  | none =>
    constructor
    · intro h; cases h
    · rintro ⟨x, _, _, _, h⟩
      rw [Enc_leb, hc] at h
      rcases h with ⟨_, h, _⟩ | ⟨_, h, _⟩ <;> cases h
  | some c =>
    have hcb := hb.get hc
    have back : ∀ x, Enc b i (lebL x) j → (x < 128 ∧ c = x ∧ j = i + 1) ∨ (128 ≤ x ∧ c = ((x % 128 + 128 : Nat) : Int) ∧ Enc b (i + 1) (lebL (x / 128)) j) := fun x h => by
      rcases Enc_leb.1 h with ⟨h1, h2, h3⟩ | ⟨h1, h2, h3⟩
      · rw [hc] at h2
        injection h2 with h2
        exact .inl ⟨h1, h2, h3⟩
      · rw [hc] at h2
        injection h2 with h2
        exact .inr ⟨h1, h2, h3⟩
    dsimp only
    by_cases c1 : 5 = 9 ∧ 1 < c
    · rw [if_pos c1]
      constructor
      · intro h; cases h
      · rintro ⟨x, hv, hx, hp, he⟩
        rcases back x he with ⟨h1, h2, h3⟩ | ⟨h1, h2, h3⟩ <;> (exfalso; omega)
    · rw [if_neg c1]
      by_cases c2 : c < 128
      · rw [if_pos c2]
        by_cases c3 : c = 0 ∧ 0 < 5
        · rw [if_pos c3]
          constructor
          · intro h; cases h
          · rintro ⟨x, hv, hx, hp, he⟩
            rcases back x he with ⟨h1, h2, h3⟩ | ⟨h1, h2, h3⟩ <;> (exfalso; omega)
        · rw [if_neg c3, PR.ok.injEq]
          simp only [Nat.reducePow]
          constructor
          · rintro ⟨h1, h2⟩
            refine ⟨c.toNat, by omega, by omega, (by first | exact .inl rfl | exact .inl trivial | omega), Enc_leb.2 (.inl ⟨by omega, ?_, by omega⟩)⟩
            rw [hc]
            congr 1
            omega
          · rintro ⟨x, hv, hx, hp, he⟩
            rcases back x he with ⟨h1, h2, h3⟩ | ⟨h1, h2, h3⟩
            · exact ⟨by omega, by omega⟩
            · exfalso; omega
      · rw [if_neg c2]
        simp only [Nat.reducePow]
        refine (uint_6 hb).trans ?_
        constructor
        · rintro ⟨x, hv, hx, hp, he⟩
          refine ⟨(c.toNat - 128) + 128 * x, by omega, by omega, (by first | exact .inl rfl | exact .inl trivial | omega), Enc_leb.2 (.inr ⟨by omega, ?_, ?_⟩)⟩
          · rw [hc]
            congr 1
            omega
          · rw [show ((c.toNat - 128) + 128 * x) / 128 = x by omega]
            exact he
        · rintro ⟨x, hv, hx, hp, he⟩
          rcases back x he with ⟨h1, h2, h3⟩ | ⟨h1, h2, h3⟩
          · exfalso; omega
          · exact ⟨x / 128, by omega, by omega, (by first | exact .inl rfl | exact .inl trivial | omega), h3⟩
theorem uint_4 {st n i v j : Nat} {b : List Int} (hb : BB b) : uintG st 6 n 4 b i = .ok v j ↔ ∃ x, v = n + x * 268435456 ∧ x < 68719476736 ∧ (4 = 0 ∨ 0 < x) ∧ Enc b i (lebL x) j := by
  unfold uintG
  cases hc : b[i]? with
  | none =>
    constructor
    · intro h; cases h
    · rintro ⟨x, _, _, _, h⟩
      rw [Enc_leb, hc] at h
      rcases h with ⟨_, h, _⟩ | ⟨_, h, _⟩ <;> cases h
  | some c =>
    have hcb := hb.get hc
    have back : ∀ x, Enc b i (lebL x) j → (x < 128 ∧ c = x ∧ j = i + 1) ∨ (128 ≤ x ∧ c = ((x % 128 + 128 : Nat) : Int) ∧ Enc b (i + 1) (lebL (x / 128)) j) := fun x h => by
      rcases Enc_leb.1 h with ⟨h1, h2, h3⟩ | ⟨h1, h2, h3⟩
      · rw [hc] at h2
        injection h2 with h2
        exact .inl ⟨h1, h2, h3⟩
      · rw [hc] at h2
        injection h2 with h2
        exact .inr ⟨h1, h2, h3⟩
    dsimp only
    by_cases c1 : 4 = 9 ∧ 1 < c
    · rw [if_pos c1]
      constructor
      · intro h; cases h
      · rintro ⟨x, hv, hx, hp, he⟩
        rcases back x he with ⟨h1, h2, h3⟩ | ⟨h1, h2, h3⟩ <;> (exfalso; omega)
    · rw [if_neg c1]
      by_cases c2 : c < 128
      · rw [if_pos c2]
        by_cases c3 : c = 0 ∧ 0 < 4
        · rw [if_pos c3]
          constructor
          · intro h; cases h
          · rintro ⟨x, hv, hx, hp, he⟩
            rcases back x he with ⟨h1, h2, h3⟩ | ⟨h1, h2, h3⟩ <;> (exfalso; omega)
        · rw [if_neg c3, PR.ok.injEq]
          simp only [Nat.reducePow]
          constructor
          · rintro ⟨h1, h2⟩
            refine ⟨c.toNat, by omega, by omega, (by first | exact .inl rfl | exact .inl trivial | omega), Enc_leb.2 (.inl ⟨by omega, ?_, by omega⟩)⟩
            rw [hc]
            congr 1
            omega
          · rintro ⟨x, hv, hx, hp, he⟩
            rcases back x he with ⟨h1, h2, h3⟩ | ⟨h1, h2, h3⟩
            · exact ⟨by omega, by omega⟩
            · exfalso; omega
      · rw [if_neg c2]
        simp only [Nat.reducePow]
        refine (uint_5 hb).trans ?_
        constructor
        · rintro ⟨x, hv, hx, hp, he⟩
          refine ⟨(c.toNat - 128) + 128 * x, by omega, by omega, (by first | exact .inl rfl | exact .inl trivial | omega), Enc_leb.2 (.inr ⟨by omega, ?_, ?_⟩)⟩
          · rw [hc]
            congr 1
            omega
          · rw [show ((c.toNat - 128) + 128 * x) / 128 = x by omega]
            exact he
        · rintro ⟨x, hv, hx, hp, he⟩
          rcases back x he with ⟨h1, h2, h3⟩ | ⟨h1, h2, h3⟩
          · exfalso; omega
          · exact ⟨x / 128, by omega, by omega, (by first | exact .inl rfl | exact .inl trivial | omega), h3⟩
theorem uint_3 {st n i v j : Nat} {b : List Int} (hb : BB b) : uintG st 7 n 3 b i = .ok v j ↔ ∃ x, v = n + x * 2097152 ∧ x < 8796093022208 ∧ (3 = 0 ∨ 0 < x) ∧ Enc b i (lebL x) j := by
  unfold uintG
  cases hc : b[i]? with
  | none =>
    constructor
    · intro h; cases h
    · rintro ⟨x, _, _, _, h⟩
      rw [Enc_leb, hc] at h
      rcases h with ⟨_, h, _⟩ | ⟨_, h, _⟩ <;> cases h
  | some c =>
    have hcb := hb.get hc
    have back : ∀ x, Enc b i (lebL x) j → (x < 128 ∧ c = x ∧ j = i + 1) ∨ (128 ≤ x ∧ c = ((x % 128 + 128 : Nat) : Int) ∧ Enc b (i + 1) (lebL (x / 128)) j) := fun x h => by
      rcases Enc_leb.1 h with ⟨h1, h2, h3⟩ | ⟨h1, h2, h3⟩
      · rw [hc] at h2
        injection h2 with h2
        exact .inl ⟨h1, h2, h3⟩
      · rw [hc] at h2
        injection h2 with h2
        exact .inr ⟨h1, h2, h3⟩
    dsimp only
    by_cases c1 : 3 = 9 ∧ 1 < c
    · rw [if_pos c1]
      constructor
      · intro h; cases h
      · rintro ⟨x, hv, hx, hp, he⟩
        rcases back x he with ⟨h1, h2, h3⟩ | ⟨h1, h2, h3⟩ <;> (exfalso; omega)
    · rw [if_neg c1]
      by_cases c2 : c < 128
      · rw [if_pos c2]
        by_cases c3 : c = 0 ∧ 0 < 3
        · rw [if_pos c3]
          constructor
          · intro h; cases h
          · rintro ⟨x, hv, hx, hp, he⟩
            rcases back x he with ⟨h1, h2, h3⟩ | ⟨h1, h2, h3⟩ <;> (exfalso; omega)
        · rw [if_neg c3, PR.ok.injEq]
          simp only [Nat.reducePow]
          constructor
          · rintro ⟨h1, h2⟩
            refine ⟨c.toNat, by omega, by omega, (by first | exact .inl rfl | exact .inl trivial | omega), Enc_leb.2 (.inl ⟨by omega, ?_, by omega⟩)⟩
            rw [hc]
            congr 1
            omega
          · rintro ⟨x, hv, hx, hp, he⟩
            rcases back x he with ⟨h1, h2, h3⟩ | ⟨h1, h2, h3⟩
            · exact ⟨by omega, by omega⟩
            · exfalso; omega
      · rw [if_neg c2]
        simp only [Nat.reducePow]
        refine (uint_4 hb).trans ?_
        constructor
        · rintro ⟨x, hv, hx, hp, he⟩
          refine ⟨(c.toNat - 128) + 128 * x, by omega, by omega, (by first | exact .inl rfl | exact .inl trivial | omega), Enc_leb.2 (.inr ⟨by omega, ?_, ?_⟩)⟩
          · rw [hc]
            congr 1
            omega
          · rw [show ((c.toNat - 128) + 128 * x) / 128 = x by omega]
            exact he
        · rintro ⟨x, hv, hx, hp, he⟩
          rcases back x he with ⟨h1, h2, h3⟩ | ⟨h1, h2, h3⟩
          · exfalso; omega
          · exact ⟨x / 128, by omega, by omega, (by first | exact .inl rfl | exact .inl trivial | omega), h3⟩
theorem uint_2 {st n i v j : Nat} {b : List Int} (hb : BB b) : uintG st 8 n 2 b i = .ok v j ↔ ∃ x, v = n + x * 16384 ∧ x < 1125899906842624 ∧ (2 = 0 ∨ 0 < x) ∧ Enc b i (lebL x) j := by
  unfold uintG
  cases hc : b[i]? with
  | none =>
    constructor
    · intro h; cases h
    · rintro ⟨x, _, _, _, h⟩
      rw [Enc_leb, hc] at h
      rcases h with ⟨_, h, _⟩ | ⟨_, h, _⟩ <;> cases h
  | some c =>
    have hcb := hb.get hc
    have back : ∀ x, Enc b i (lebL x) j → (x < 128 ∧ c = x ∧ j = i + 1) ∨ (128 ≤ x ∧ c = ((x % 128 + 128 : Nat) : Int) ∧ Enc b (i + 1) (lebL (x / 128)) j) := fun x h => by
      rcases Enc_leb.1 h with ⟨h1, h2, h3⟩ | ⟨h1, h2, h3⟩
      · rw [hc] at h2
        injection h2 with h2
        exact .inl ⟨h1, h2, h3⟩
      · rw [hc] at h2
        injection h2 with h2
        exact .inr ⟨h1, h2, h3⟩
    dsimp only
    by_cases c1 : 2 = 9 ∧ 1 < c
    · rw [if_pos c1]
      constructor
      · intro h; cases h
      · rintro ⟨x, hv, hx, hp, he⟩
        rcases back x he with ⟨h1, h2, h3⟩ | ⟨h1, h2, h3⟩ <;> (exfalso; omega)
    · rw [if_neg c1]
      by_cases c2 : c < 128
      · rw [if_pos c2]
        by_cases c3 : c = 0 ∧ 0 < 2
        · rw [if_pos c3]
          constructor
          · intro h; cases h
          · rintro ⟨x, hv, hx, hp, he⟩
            rcases back x he with ⟨h1, h2, h3⟩ | ⟨h1, h2, h3⟩ <;> (exfalso; omega)
        · rw [if_neg c3, PR.ok.injEq]
          simp only [Nat.reducePow]
          constructor
          · rintro ⟨h1, h2⟩
            refine ⟨c.toNat, by omega, by omega, (by first | exact .inl rfl | exact .inl trivial | omega), Enc_leb.2 (.inl ⟨by omega, ?_, by omega⟩)⟩
            rw [hc]
            congr 1
            omega
          · rintro ⟨x, hv, hx, hp, he⟩
            rcases back x he with ⟨h1, h2, h3⟩ | ⟨h1, h2, h3⟩
            · exact ⟨by omega, by omega⟩
            · exfalso; omega
      · rw [if_neg c2]
        simp only [Nat.reducePow]
        refine (uint_3 hb).trans ?_
        constructor
        · rintro ⟨x, hv, hx, hp, he⟩
          refine ⟨(c.toNat - 128) + 128 * x, by omega, by omega, (by first | exact .inl rfl | exact .inl trivial | omega), Enc_leb.2 (.inr ⟨by omega, ?_, ?_⟩)⟩
          · rw [hc]
            congr 1
            omega
          · rw [show ((c.toNat - 128) + 128 * x) / 128 = x by omega]
            exact he
        · rintro ⟨x, hv, hx, hp, he⟩
          rcases back x he with ⟨h1, h2, h3⟩ | ⟨h1, h2, h3⟩
          · exfalso; omega
          · exact ⟨x / 128, by omega, by omega, (by first | exact .inl rfl | exact .inl trivial | omega), h3⟩
theorem uint_1 {st n i v j : Nat} {b : List Int} (hb : BB b) : uintG st 9 n 1 b i = .ok v j ↔ ∃ x, v = n + x * 128 ∧ x < 144115188075855872 ∧ (1 = 0 ∨ 0 < x) ∧ Enc b i (lebL x) j := by
  unfold uintG
  cases hc : b[i]? with
  | none =>
    constructor
    · intro h; cases h
    · rintro ⟨x, _, _, _, h⟩
      rw [Enc_leb, hc] at h
      rcases h with ⟨_, h, _⟩ | ⟨_, h, _⟩ <;> cases h
  | some c =>
    have hcb := hb.get hc
    have back : ∀ x, Enc b i (lebL x) j → (x < 128 ∧ c = x ∧ j = i + 1) ∨ (128 ≤ x ∧ c = ((x % 128 + 128 : Nat) : Int) ∧ Enc b (i + 1) (lebL (x / 128)) j) := fun x h => by
      rcases Enc_leb.1 h with ⟨h1, h2, h3⟩ | ⟨h1, h2, h3⟩
      · rw [hc] at h2
        injection h2 with h2
        exact .inl ⟨h1, h2, h3⟩
      · rw [hc] at h2
        injection h2 with h2
        exact .inr ⟨h1, h2, h3⟩
    dsimp only
    by_cases c1 : 1 = 9 ∧ 1 < c
    · rw [if_pos c1]
      constructor
      · intro h; cases h
      · rintro ⟨x, hv, hx, hp, he⟩
        rcases back x he with ⟨h1, h2, h3⟩ | ⟨h1, h2, h3⟩ <;> (exfalso; omega)
    · rw [if_neg c1]
      by_cases c2 : c < 128
      · rw [if_pos c2]
        by_cases c3 : c = 0 ∧ 0 < 1
        · rw [if_pos c3]
          constructor
          · intro h; cases h
          · rintro ⟨x, hv, hx, hp, he⟩
            rcases back x he with ⟨h1, h2, h3⟩ | ⟨h1, h2, h3⟩ <;> (exfalso; omega)
        · rw [if_neg c3, PR.ok.injEq]
          simp only [Nat.reducePow]
          constructor
          · rintro ⟨h1, h2⟩
            refine ⟨c.toNat, by omega, by omega, (by first | exact .inl rfl | exact .inl trivial | omega), Enc_leb.2 (.inl ⟨by omega, ?_, by omega⟩)⟩
            rw [hc]
            congr 1
            omega
          · rintro ⟨x, hv, hx, hp, he⟩
            rcases back x he with ⟨h1, h2, h3⟩ | ⟨h1, h2, h3⟩
            · exact ⟨by omega, by omega⟩
            · exfalso; omega
      · rw [if_neg c2]
        simp only [Nat.reducePow]
        refine (uint_2 hb).trans ?_
        constructor
        · rintro ⟨x, hv, hx, hp, he⟩
          refine ⟨(c.toNat - 128) + 128 * x, by omega, by omega, (by first | exact .inl rfl | exact .inl trivial | omega), Enc_leb.2 (.inr ⟨by omega, ?_, ?_⟩)⟩
          · rw [hc]
            congr 1
            omega
          · rw [show ((c.toNat - 128) + 128 * x) / 128 = x by omega]
            exact he
        · rintro ⟨x, hv, hx, hp, he⟩
          rcases back x he with ⟨h1, h2, h3⟩ | ⟨h1, h2, h3⟩
          · exfalso; omega
          · exact ⟨x / 128, by omega, by omega, (by first | exact .inl rfl | exact .inl trivial | omega), h3⟩
theorem uint_0 {st n i v j : Nat} {b : List Int} (hb : BB b) : uintG st 10 n 0 b i = .ok v j ↔ ∃ x, v = n + x * 1 ∧ x < 18446744073709551616 ∧ (0 = 0 ∨ 0 < x) ∧ Enc b i (lebL x) j := by
  unfold uintG
  cases hc : b[i]? with
  | none =>
    constructor
    · intro h; cases h
    · rintro ⟨x, _, _, _, h⟩
      rw [Enc_leb, hc] at h
      rcases h with ⟨_, h, _⟩ | ⟨_, h, _⟩ <;> cases h
  | some c =>
    have hcb := hb.get hc
    have back : ∀ x, Enc b i (lebL x) j → (x < 128 ∧ c = x ∧ j = i + 1) ∨ (128 ≤ x ∧ c = ((x % 128 + 128 : Nat) : Int) ∧ Enc b (i + 1) (lebL (x / 128)) j) := fun x h => by
      rcases Enc_leb.1 h with ⟨h1, h2, h3⟩ | ⟨h1, h2, h3⟩
      · rw [hc] at h2
        injection h2 with h2
        exact .inl ⟨h1, h2, h3⟩
      · rw [hc] at h2
        injection h2 with h2
        exact .inr ⟨h1, h2, h3⟩
    dsimp only
    by_cases c1 : 0 = 9 ∧ 1 < c
    · rw [if_pos c1]
      constructor
      · intro h; cases h
      · rintro ⟨x, hv, hx, hp, he⟩
        rcases back x he with ⟨h1, h2, h3⟩ | ⟨h1, h2, h3⟩ <;> (exfalso; omega)
    · rw [if_neg c1]
      by_cases c2 : c < 128
      · rw [if_pos c2]
        by_cases c3 : c = 0 ∧ 0 < 0
        · rw [if_pos c3]
          constructor
          · intro h; cases h
          · rintro ⟨x, hv, hx, hp, he⟩
            rcases back x he with ⟨h1, h2, h3⟩ | ⟨h1, h2, h3⟩ <;> (exfalso; omega)
        · rw [if_neg c3, PR.ok.injEq]
          simp only [Nat.reducePow]
          constructor
          · rintro ⟨h1, h2⟩
            refine ⟨c.toNat, by omega, by omega, (by first | exact .inl rfl | exact .inl trivial | omega), Enc_leb.2 (.inl ⟨by omega, ?_, by omega⟩)⟩
            rw [hc]
            congr 1
            omega
          · rintro ⟨x, hv, hx, hp, he⟩
            rcases back x he with ⟨h1, h2, h3⟩ | ⟨h1, h2, h3⟩
            · exact ⟨by omega, by omega⟩
            · exfalso; omega
      · rw [if_neg c2]
        simp only [Nat.reducePow]
        refine (uint_1 hb).trans ?_
        constructor
        · rintro ⟨x, hv, hx, hp, he⟩
          refine ⟨(c.toNat - 128) + 128 * x, by omega, by omega, (by first | exact .inl rfl | exact .inl trivial | omega), Enc_leb.2 (.inr ⟨by omega, ?_, ?_⟩)⟩
          · rw [hc]
            congr 1
            omega
          · rw [show ((c.toNat - 128) + 128 * x) / 128 = x by omega]
            exact he
        · rintro ⟨x, hv, hx, hp, he⟩
          rcases back x he with ⟨h1, h2, h3⟩ | ⟨h1, h2, h3⟩
          · exfalso; omega
          · exact ⟨x / 128, by omega, by omega, (by first | exact .inl rfl | exact .inl trivial | omega), h3⟩
theorem uint_ok {b : List Int} (hb : BB b) {i j v : Nat} : puint b i = .ok v j ↔ v < 18446744073709551616 ∧ Enc b i (lebL v) j := by
  show uintG i 10 0 0 b i = .ok v j ↔ _
  rw [uint_0 hb]
  constructor
  · rintro ⟨x, h1, h2, _, h3⟩
    obtain rfl : v = x := by omega
    exact ⟨by omega, h3⟩
  · rintro ⟨h1, h2⟩
    exact ⟨v, by omega, by omega, .inl rfl, h2⟩
theorem number_ok {b : List Int} (hb : BB b) {below e : Int} {i j : Nat} {v : Int} : pnumber below e b i = .ok v j ↔ 0 ≤ v ∧ v < below ∧ v < 18446744073709551616 ∧ Enc b i (lebL v.toNat) j := by
  unfold pnumber
  rw [at_ok, bind_ok]
  constructor
  · rintro ⟨n, k, h1, h2⟩
    obtain ⟨h3, h4⟩ := (uint_ok hb).1 h1
    split at h2
    · obtain ⟨rfl, rfl⟩ := pure_ok.1 h2
      exact ⟨by omega, by assumption, by omega, h4⟩
    · cases h2
  · rintro ⟨h0, h1, h2, h3⟩
    refine ⟨v.toNat, j, (uint_ok hb).2 ⟨by omega, h3⟩, ?_⟩
    rw [if_pos (by omega)]
    exact pure_ok.2 ⟨by omega, rfl⟩
theorem rep_ok {α : Type} {p : Par α} {b : List Int} {enc : α → List Int} {V : α → Prop} (h : ∀ i a j, p b i = .ok a j ↔ V a ∧ Enc b i (enc a) j) : ∀ (n : Nat) {i j : Nat} {l : List α}, prep p n b i = .ok l j ↔ l.length = n ∧ (∀ a ∈ l, V a) ∧ Enc b i (l.flatMap enc) j
  | 0, i, j, l => by
    unfold prep
    rw [pure_ok]
    constructor
    · rintro ⟨rfl, rfl⟩
      exact ⟨rfl, by simp, Enc_nil.2 rfl⟩
    · rintro ⟨h1, _, h3⟩
      have := List.eq_nil_of_length_eq_zero h1
      subst this
      exact ⟨rfl, Enc_nil.1 h3⟩
  | n + 1, i, j, l => by
    unfold prep
    rw [bind_ok]
    constructor
    · rintro ⟨a, k, h1, h2⟩
      obtain ⟨r, k2, h3, h4⟩ := bind_ok.1 h2
      obtain ⟨rfl, rfl⟩ := pure_ok.1 h4
      obtain ⟨g1, g2⟩ := (h _ _ _).1 h1
      obtain ⟨g3, g4, g5⟩ := (rep_ok h n).1 h3
      refine ⟨by simp [g3], ?_, ?_⟩
      · intro x hx
        rcases List.mem_cons.1 hx with rfl | hx
        · exact g1
        · exact g4 x hx
      · rw [List.flatMap_cons, Enc_app]
        exact ⟨_, g2, g5⟩
    · rintro ⟨h1, h2, h3⟩
      cases l with
      | nil => cases h1
      | cons a l =>
        rw [List.flatMap_cons, Enc_app] at h3
        obtain ⟨k, h3, h4⟩ := h3
        refine ⟨a, k, (h _ _ _).2 ⟨h2 a (List.mem_cons_self ..), h3⟩, bind_ok.2 ⟨l, j, (rep_ok h n).2 ⟨by simpa using h1, fun x hx => h2 x (List.mem_cons_of_mem _ hx), h4⟩, pure_ok.2 ⟨rfl, rfl⟩⟩⟩
theorem fold_unfold (n : Nat) : foldZ (unfoldZ n) = n := by
  unfold foldZ unfoldZ
  split <;> split <;> omega
theorem unfold_fold (z : Int) : unfoldZ (foldZ z) = z := by
  unfold foldZ unfoldZ
  split <;> split <;> omega
def pint : Par Int := pbind puint fun n => ppure (unfoldZ n)
theorem good_int {lo : Nat} : GoodAt lo pint := good_bind good_uint fun _ _ _ => good_pure _
theorem int_ok {b : List Int} (hb : BB b) {i j : Nat} {v : Int} : pint b i = .ok v j ↔ foldZ v < 18446744073709551616 ∧ Enc b i (lebL (foldZ v)) j := by
  unfold pint
  rw [bind_ok]
  constructor
  · rintro ⟨n, k, h1, h2⟩
    obtain ⟨rfl, rfl⟩ := pure_ok.1 h2
    rw [fold_unfold]
    exact (uint_ok hb).1 h1
  · intro h
    exact ⟨foldZ v, j, (uint_ok hb).2 h, pure_ok.2 ⟨(unfold_fold v).symm, rfl⟩⟩
end Go.Proofs.YtiijjopdhjpalaaDoor

/-! Reading an image, in plain Lean; what it leaves open. Conditions: none. -/
namespace Go.Proofs.YtiijjopdhjpalaaDoor
open Go
set_option linter.unusedSimpArgs false
set_option linter.unusedVariables false
def pmap {α β : Type} (g : α → β) (p : Par α) : Par β := pbind p fun a => ppure (g a)
theorem rep_map {α β : Type} (g : α → β) (p : Par α) : ∀ n, prep (pmap g p) n = pmap (List.map g) (prep p n)
  | 0 => rfl
  | n + 1 => by
    funext b i
    unfold prep
    rw [rep_map g p n]
    unfold pmap pbind
    cases p b i with
    | bad k e => rfl
    | ok a j =>
      simp only [ppure]
      cases prep p n b j with
      | bad k e => rfl
      | ok l k => rfl
theorem good_map {α β : Type} {lo : Nat} {g : α → β} {p : Par α} (h : GoodAt lo p) : GoodAt lo (pmap g p) := good_bind h fun _ _ _ => good_pure _
theorem rep_post {α : Type} {p : Par α} (hp : GoodAt 0 p) (Q : α → Nat → Prop) (hm : ∀ a j k, Q a j → j ≤ k → Q a k) (h : ∀ b i a j, i ≤ b.length → p b i = .ok a j → Q a j) : ∀ (n : Nat) (b : List Int) (i : Nat) (l : List α) (j : Nat), i ≤ b.length → prep p n b i = .ok l j → ∀ a ∈ l, Q a j
  | 0, b, i, l, j, hi, hr => by
    obtain ⟨rfl, rfl⟩ := pure_ok.1 hr
    intro a ha
    cases ha
  | n + 1, b, i, l, j, hi, hr => by
    obtain ⟨a, k, h1, h2⟩ := bind_ok.1 hr
    obtain ⟨r, k2, h3, h4⟩ := bind_ok.1 h2
    obtain ⟨rfl, rfl⟩ := pure_ok.1 h4
    have g := hp b i (Nat.zero_le _) hi
    rw [h1] at g
    have g2 := good_rep hp n b k (Nat.zero_le _) g.2.1
    rw [h3] at g2
    have ih := rep_post hp Q hm h n b k r _ g.2.1 h3
    intro x hx
    rcases List.mem_cons.1 hx with rfl | hx
    · exact hm _ _ _ (h b i x k hi h1) g2.1
    · exact ih x hx
def pkinds (most types : Int) : Par (List Int) := pbind (pnumber (most + 1) 5) fun n => prep (pnumber types 7) n.toNat
def ptype (n : Int) : Par (GT × Nat) := pat fun st => pbind pbyte fun c =>
  if c = 2 then pbind (pkinds 12 (n + 2)) fun ps => ppure (⟨2, ps, 0⟩, 0)
  else if c = 4 then pbind (pkinds 6 (n + 2)) fun ps => pat fun pl => pbind (pnumber (n + 2) 7) fun o => ppure (⟨4, ps, o⟩, pl)
  else if c = 3 ∨ c = 5 then pat fun pl => pbind (pnumber (n + 2) 7) fun o => ppure (⟨c, [], o⟩, pl)
  else pfail st 6
def ptypes : Par (List GT) := pbind (pnumber 61 5) fun n => pbind (prep (ptype n) n.toNat) fun xs =>
  if (tr (xs.map (·.1))).2 = 0 then ppure (xs.map (·.1)) else pfail (nth xs (tr (xs.map (·.1))).1).2 (tr (xs.map (·.1))).2
def poper (st : Nat) (op : Int) : Par Int := if form op = 0 then ppure 0 else if form op = -1 then pfail st 6 else if form op = 1 then pint else pnumber 2147483648 7
def pinstr (ts : List GT) (nf lo co : Int) : Par GI := pat fun st => pbind pbyte fun op => pat fun to => pbind (poper st op) fun a =>
  if form op = 7 ∨ form op = 8 then
    (if TK (T0 ts) a ≠ kindOf op then pfail to 7 else pat fun to2 => pbind (pnumber 2147483648 7) fun b => if ir (TK (T0 ts)) (TP (T0 ts)) nf lo co op a b = true then ppure ⟨op, a, b⟩ else pfail to2 7)
  else if ir (TK (T0 ts)) (TP (T0 ts)) nf lo co op a 0 = true then ppure ⟨op, a, 0⟩ else pfail to 7
def pcode (ts : List GT) (nf lo co : Int) : Par (GI × Nat) := pat fun st => pbind (pinstr ts nf lo co) fun i => ppure (i, st)
def lastOp (cs : List (GI × Nat)) : GI × Nat := nth cs (cs.length - 1)
def pfunc (ts : List GT) (nf : Int) (first : Bool) : Par GF := pat fun st => pbind (pnumber 17 5) fun n =>
  if first = true ∧ 0 < n then pfail st 8 else
  pbind (prep (pnumber (ts.length + 2) 7) n.toNat) fun ps => pat fun s2 => pbind (pnumber (ts.length + 2) 7) fun r =>
  if first = true ∧ r ≠ 0 then pfail s2 8 else
  pbind (pnumber (32 - n + 1) 5) fun lo => pat fun s3 => pbind (pnumber 301 5) fun size => pbind (prep (pcode ts nf (n + lo) size) size.toNat) fun cs =>
  if size = 0 then pfail s3 9 else if ends (lastOp cs).1.op = false then pfail (lastOp cs).2 9 else ppure ⟨ps, r, lo, cs.map (·.1)⟩
def pfuncs (ts : List GT) (nf : Int) : Par (List GF) := pbind (pfunc ts nf true) fun f => pbind (prep (pfunc ts nf false) (nf.toNat - 1)) fun l => ppure (f :: l)
def pmagic (l : List Int) : Par Unit := match l with
  | [] => ppure ()
  | c :: l => pat fun st => pbind pbyte fun d => if d ≠ c then pfail st 3 else pmagic l
def pbody : Par GP := pbind (pmagic [116, 105, 100, 1]) fun _ => pbind ptypes fun ts => pat fun st => pbind (pnumber 51 5) fun nf => if nf = 0 then pfail st 8 else pbind (pfuncs ts nf) fun fs => ppure ⟨ts, fs⟩
def dec (b : List Int) : PR GP := if 1048576 < b.length then .bad 1048576 5 else match pbody b 0 with
  | .ok p j => if j < b.length then .bad j 10 else .ok p j
  | .bad k e => .bad k e
theorem good_ite {α : Type} {lo : Nat} {c : Prop} [Decidable c] {p q : Par α} (hp : c → GoodAt lo p) (hq : ¬ c → GoodAt lo q) : GoodAt lo (if c then p else q) := by
  split
  · exact hp (by assumption)
  · exact hq (by assumption)
theorem good_kinds {lo : Nat} {most types : Int} : GoodAt lo (pkinds most types) := good_bind (good_number (by decide) (by decide)) fun n k hk => good_rep (good_number (by decide) (by decide)) _
theorem good_type {lo : Nat} {n : Int} : GoodAt lo (ptype n) := by
  refine good_at fun st _ => good_bind good_byte fun c k hk => ?_
  refine good_ite (fun _ => good_bind good_kinds fun _ _ _ => good_pure _) fun _ => ?_
  refine good_ite (fun _ => good_bind good_kinds fun _ _ _ => good_at fun _ _ => good_bind (good_number (by decide) (by decide)) fun _ _ _ => good_pure _) fun _ => ?_
  exact good_ite (fun _ => good_at fun _ _ => good_bind (good_number (by decide) (by decide)) fun _ _ _ => good_pure _) fun _ => good_fail (by omega) (by decide) (by decide)
theorem type_place {b : List Int} {n : Int} {i j : Nat} {x : GT × Nat} (hi : i ≤ b.length) (h : ptype n b i = .ok x j) : x.2 ≤ j := by
  have hpos : ∀ {α : Type} {p : Par α} {i j : Nat} {a : α}, GoodAt 0 p → i ≤ b.length → p b i = .ok a j → i ≤ j ∧ j ≤ b.length := fun hg hi h => by
    have := hg b _ (Nat.zero_le _) hi
    rw [h] at this
    exact ⟨this.1, this.2.1⟩
  unfold ptype at h
  rw [at_ok] at h
  obtain ⟨c, k, h1, h2⟩ := bind_ok.1 h
  have g1 := hpos good_byte hi h1
  split at h2
  · obtain ⟨ps, k2, h3, h4⟩ := bind_ok.1 h2
    obtain ⟨rfl, rfl⟩ := pure_ok.1 h4
    exact Nat.zero_le _
  · split at h2
    · obtain ⟨ps, k2, h3, h4⟩ := bind_ok.1 h2
      have g2 := hpos good_kinds g1.2 h3
      rw [at_ok] at h4
      obtain ⟨o, k3, h5, h6⟩ := bind_ok.1 h4
      have g3 := hpos (good_number (by decide) (by decide)) g2.2 h5
      obtain ⟨rfl, rfl⟩ := pure_ok.1 h6
      exact g3.1
    · split at h2
      · rw [at_ok] at h2
        obtain ⟨o, k3, h5, h6⟩ := bind_ok.1 h2
        have g3 := hpos (good_number (by decide) (by decide)) g1.2 h5
        obtain ⟨rfl, rfl⟩ := pure_ok.1 h6
        exact g3.1
      · cases h2
theorem nth_or {α : Type} [Inhabited α] (l : List α) (i : Int) : nth l i ∈ l ∨ nth l i = default := by
  unfold nth
  rcases Nat.lt_or_ge i.toNat l.length with h | h
  · exact .inl (by rw [List.getD_eq_getElem?_getD, List.getElem?_eq_getElem h]; exact List.getElem_mem h)
  · exact .inr (by rw [List.getD_eq_getElem?_getD, List.getElem?_eq_none h]; rfl)
theorem wr_val (l : List GT) (k : Int) (ps : List Int) (o : Int) : wr l k ps o = 0 ∨ (5 ≤ wr l k ps o ∧ wr l k ps o ≤ 7) := by
  unfold wr
  (repeat' split) <;> omega
theorem tr_val (l : List GT) : (tr l).2 = 0 ∨ (5 ≤ (tr l).2 ∧ (tr l).2 ≤ 7) := by
  unfold tr
  split
  · exact .inr (by decide)
  · split
    · exact wr_val _ _ _ _
    · exact .inl rfl
theorem good_types {lo : Nat} : GoodAt lo ptypes := by
  refine good_bind (good_number (by decide) (by decide)) fun n k hk => ?_
  refine good_post (fun xs j => ∀ x ∈ xs, x.2 ≤ j) (good_rep good_type _) (fun b i a j h1 h2 h3 => rep_post good_type (fun x j => x.2 ≤ j) (fun a j k h g => Nat.le_trans h g) (fun b i a j hi h => type_place hi h) _ b i a j h2 h3) fun xs j hj hP => ?_
  refine good_ite (fun _ => good_pure _) fun hne => ?_
  have hv := (tr_val (xs.map (·.1))).resolve_left hne
  refine good_fail ?_ (by omega) (by omega)
  rcases nth_or xs (tr (xs.map (·.1))).1 with h | h
  · exact hP _ h
  · rw [h]; exact Nat.zero_le _
theorem good_oper {lo st : Nat} {op : Int} (h : st ≤ lo) : GoodAt lo (poper st op) := by
  unfold poper
  exact good_ite (fun _ => good_pure _) fun _ => good_ite (fun _ => good_fail h (by decide) (by decide)) fun _ => good_ite (fun _ => good_int) fun _ => good_number (by decide) (by decide)
theorem good_instr {lo : Nat} {ts : List GT} {nf l co : Int} : GoodAt lo (pinstr ts nf l co) := by
  refine good_at fun st _ => good_bind good_byte fun op k hk => good_at fun to hto => good_bind (good_oper (by omega)) fun a k2 hk2 => ?_
  refine good_ite (fun _ => good_ite (fun _ => good_fail hk2 (by decide) (by decide)) fun _ => good_at fun t2 ht2 => good_bind (good_number (by decide) (by decide)) fun b k3 hk3 => good_ite (fun _ => good_pure _) fun _ => good_fail hk3 (by decide) (by decide)) fun _ => good_ite (fun _ => good_pure _) fun _ => good_fail hk2 (by decide) (by decide)
theorem good_code {lo : Nat} {ts : List GT} {nf l co : Int} : GoodAt lo (pcode ts nf l co) := good_at fun st _ => good_bind good_instr fun _ _ _ => good_pure _
theorem code_place {b : List Int} {ts : List GT} {nf l co : Int} {i j : Nat} {x : GI × Nat} (hi : i ≤ b.length) (h : pcode ts nf l co b i = .ok x j) : x.2 ≤ j := by
  unfold pcode at h
  rw [at_ok] at h
  obtain ⟨c, k, h1, h2⟩ := bind_ok.1 h
  obtain ⟨rfl, rfl⟩ := pure_ok.1 h2
  have := good_instr (lo := 0) (ts := ts) (nf := nf) (l := l) (co := co) b i (Nat.zero_le _) hi
  rw [h1] at this
  exact this.1
theorem good_func {lo : Nat} {ts : List GT} {nf : Int} {first : Bool} : GoodAt lo (pfunc ts nf first) := by
  refine good_at fun st _ => good_bind (good_number (by decide) (by decide)) fun n k hk => good_ite (fun _ => good_fail hk (by decide) (by decide)) fun _ => ?_
  refine good_bind (good_rep (good_number (by decide) (by decide)) _) fun ps k2 hk2 => good_at fun s2 h2 => good_bind (good_number (by decide) (by decide)) fun r k3 hk3 => good_ite (fun _ => good_fail hk3 (by decide) (by decide)) fun _ => ?_
  refine good_bind (good_number (by decide) (by decide)) fun l k4 hk4 => good_at fun s3 h3 => good_bind (good_number (by decide) (by decide)) fun size k5 hk5 => ?_
  refine good_post (fun xs j => ∀ x ∈ xs, x.2 ≤ j) (good_rep good_code _) (fun b i a j h1 h2 h3 => rep_post good_code (fun x j => x.2 ≤ j) (fun a j k h g => Nat.le_trans h g) (fun b i a j hi h => code_place hi h) _ b i a j h2 h3) fun xs j hj hP => ?_
  refine good_ite (fun _ => good_fail (by omega) (by decide) (by decide)) fun _ => good_ite (fun _ => good_fail ?_ (by decide) (by decide)) fun _ => good_pure _
  rcases nth_or xs (xs.length - 1) with h | h
  · exact hP _ h
  · unfold lastOp
    rw [h]
    exact Nat.zero_le _
theorem good_magic {lo : Nat} : ∀ l, GoodAt lo (pmagic l)
  | [] => good_pure _
  | c :: l => good_at fun st _ => good_bind good_byte fun d k hk => good_ite (fun _ => good_fail hk (by decide) (by decide)) fun _ => good_magic l
theorem good_body : GoodAt 0 pbody := by
  refine good_bind (good_magic _) fun _ _ _ => good_bind good_types fun ts k hk => good_at fun st hst => good_bind (good_number (by decide) (by decide)) fun nf k2 hk2 => good_ite (fun _ => good_fail hk2 (by decide) (by decide)) fun _ => ?_
  refine good_bind (good_bind good_func fun _ _ _ => good_bind (good_rep good_func _) fun _ _ _ => good_pure _) fun _ _ _ => good_pure _
end Go.Proofs.YtiijjopdhjpalaaDoor

/-! Reading an image, in plain Lean: just what a right program is written as. Conditions: none. -/
namespace Go.Proofs.YtiijjopdhjpalaaDoor
open Go
set_option linter.unusedSimpArgs false
set_option linter.unusedVariables false
theorem map_ok {α β : Type} {g : α → β} {p : Par α} {b : List Int} {i j : Nat} {c : β} : pmap g p b i = .ok c j ↔ ∃ a, p b i = .ok a j ∧ c = g a := by
  unfold pmap
  rw [bind_ok]
  constructor
  · rintro ⟨a, k, h1, h2⟩
    obtain ⟨rfl, rfl⟩ := pure_ok.1 h2
    exact ⟨a, h1, rfl⟩
  · rintro ⟨a, h1, rfl⟩
    exact ⟨a, j, h1, pure_ok.2 ⟨rfl, rfl⟩⟩
theorem pite_ok {α : Type} {c : Prop} [Decidable c] {p q : Par α} {b : List Int} {i j : Nat} {a : α} : (if c then p else q) b i = .ok a j ↔ (c ∧ p b i = .ok a j) ∨ (¬ c ∧ q b i = .ok a j) := by
  by_cases h : c
  · rw [if_pos h]; exact ⟨fun g => .inl ⟨h, g⟩, fun g => g.elim (fun k => k.2) fun k => absurd h k.1⟩
  · rw [if_neg h]; exact ⟨fun g => .inr ⟨h, g⟩, fun g => g.elim (fun k => absurd k.1 h) fun k => k.2⟩
section
variable {b : List Int} (hb : BB b)
include hb
theorem list_ok {t : Int} (ht : t ≤ 1000) {n : Nat} {i j : Nat} {l : List Int} : prep (pnumber t 7) n b i = .ok l j ↔ l.length = n ∧ (∀ z ∈ l, 0 ≤ z ∧ z < t) ∧ Enc b i (encN l) j := by
  have := rep_ok (p := pnumber t 7) (b := b) (enc := fun z => lebL z.toNat) (V := fun z => 0 ≤ z ∧ z < t) (fun i a j => by
    rw [number_ok hb]
    constructor
    · rintro ⟨h1, h2, h3, h4⟩; exact ⟨⟨h1, h2⟩, h4⟩
    · rintro ⟨⟨h1, h2⟩, h4⟩; exact ⟨h1, h2, by omega, h4⟩) n (i := i) (j := j) (l := l)
  exact this
theorem kinds_ok {most t : Int} (hm : 0 ≤ most ∧ most ≤ 1000) (ht : t ≤ 1000) {i j : Nat} {l : List Int} : pkinds most t b i = .ok l j ↔ (l.length : Int) ≤ most ∧ (∀ z ∈ l, 0 ≤ z ∧ z < t) ∧ Enc b i (encList l) j := by
  unfold pkinds encList
  rw [bind_ok, Enc_app]
  constructor
  · rintro ⟨n, k, h1, h2⟩
    obtain ⟨h3, h4, h5, h6⟩ := (number_ok hb).1 h1
    obtain ⟨h7, h8, h9⟩ := (list_ok hb ht).1 h2
    rw [← h7] at h6
    exact ⟨by omega, h8, k, h6, h9⟩
  · rintro ⟨h1, h2, k, h3, h4⟩
    exact ⟨l.length, k, (number_ok hb).2 ⟨by omega, by omega, by omega, by simpa using h3⟩, (list_ok hb ht).2 ⟨by simp, h2, h4⟩⟩
/-- A type that may be read, among n. -/
def vty (n : Int) (x : GT) : Prop :=
  (x.kind = 2 ∧ x.parts.length ≤ 12 ∧ (∀ z ∈ x.parts, 0 ≤ z ∧ z < n + 2) ∧ x.of = 0) ∨ (x.kind = 4 ∧ x.parts.length ≤ 6 ∧ (∀ z ∈ x.parts, 0 ≤ z ∧ z < n + 2) ∧ 0 ≤ x.of ∧ x.of < n + 2) ∨ ((x.kind = 3 ∨ x.kind = 5) ∧ x.parts = [] ∧ 0 ≤ x.of ∧ x.of < n + 2)
omit hb in
theorem GT_mk {x : GT} {k : Int} {ps : List Int} {o : Int} (h1 : x.kind = k) (h2 : x.parts = ps) (h3 : x.of = o) : x = ⟨k, ps, o⟩ := by
  cases x; cases h1; cases h2; cases h3; rfl
omit hb in
theorem encT_2 {x : GT} (h : x.kind = 2) : encT x = 2 :: encList x.parts := by
  unfold encT
  rw [if_pos (.inl h), if_pos h, h, List.append_nil]
  rfl
omit hb in
theorem encT_4 {x : GT} (h : x.kind = 4) : encT x = 4 :: (encList x.parts ++ lebL x.of.toNat) := by
  unfold encT
  rw [if_pos (.inr h), if_neg (by omega), h]
  rfl
omit hb in
theorem encT_o {x : GT} (h : x.kind = 3 ∨ x.kind = 5) : encT x = x.kind :: lebL x.of.toNat := by
  unfold encT
  rw [if_neg (by omega), if_neg (by omega)]
  rfl
theorem type_ok {n : Int} (hn : n ≤ 100) {i j : Nat} {x : GT} : pmap (·.1) (ptype n) b i = .ok x j ↔ vty n x ∧ Enc b i (encT x) j := by
  rw [map_ok]
  constructor
  · rintro ⟨⟨x', pl⟩, h, rfl⟩
    unfold ptype at h
    rw [at_ok] at h
    obtain ⟨c, k, h1, h2⟩ := bind_ok.1 h
    have h1 := byte_ok.1 h1
    rcases pite_ok.1 h2 with ⟨rfl, h2⟩ | ⟨c2, h2⟩
    · obtain ⟨ps, k2, h3, h4⟩ := bind_ok.1 h2
      obtain ⟨he, rfl⟩ := pure_ok.1 h4
      injection he with he _
      subst he
      obtain ⟨g1, g2, g3⟩ := (kinds_ok hb (by decide) (by omega)).1 h3
      refine ⟨.inl ⟨rfl, by show ps.length ≤ 12; omega, g2, rfl⟩, ?_⟩
      rw [encT_2 rfl]
      exact Enc_app.2 ⟨k, h1, g3⟩
    · rcases pite_ok.1 h2 with ⟨rfl, h2⟩ | ⟨c4, h2⟩
      · obtain ⟨ps, k2, h3, h4⟩ := bind_ok.1 h2
        rw [at_ok] at h4
        obtain ⟨o, k3, h5, h6⟩ := bind_ok.1 h4
        obtain ⟨he, rfl⟩ := pure_ok.1 h6
        injection he with he _
        subst he
        obtain ⟨g1, g2, g3⟩ := (kinds_ok hb (by decide) (by omega)).1 h3
        obtain ⟨r1, r2, r3, r4⟩ := (number_ok hb).1 h5
        refine ⟨.inr (.inl ⟨rfl, by show ps.length ≤ 6; omega, g2, r1, r2⟩), ?_⟩
        rw [encT_4 rfl]
        exact Enc_app.2 ⟨k, h1, Enc_app.2 ⟨k2, g3, r4⟩⟩
      · rcases pite_ok.1 h2 with ⟨c35, h2⟩ | ⟨c35, h2⟩
        · rw [at_ok] at h2
          obtain ⟨o, k3, h5, h6⟩ := bind_ok.1 h2
          obtain ⟨he, rfl⟩ := pure_ok.1 h6
          injection he with he _
          subst he
          obtain ⟨r1, r2, r3, r4⟩ := (number_ok hb).1 h5
          refine ⟨.inr (.inr ⟨c35, rfl, r1, r2⟩), ?_⟩
          rw [encT_o c35]
          exact Enc_app.2 ⟨k, h1, r4⟩
        · cases h2
  · rintro ⟨hv, he⟩
    unfold ptype
    rcases hv with ⟨h1, h2, h3, h4⟩ | ⟨h1, h2, h3, h4, h5⟩ | ⟨h1, h2, h3, h4⟩
    · rw [encT_2 h1] at he
      obtain ⟨k, e1, e2⟩ := Enc_app.1 (show Enc b i ([2] ++ encList x.parts) j from he)
      refine ⟨(x, 0), at_ok.2 (bind_ok.2 ⟨2, k, byte_ok.2 e1, pite_ok.2 (.inl ⟨rfl, bind_ok.2 ⟨x.parts, j, (kinds_ok hb (by decide) (by omega)).2 ⟨by omega, h3, e2⟩, pure_ok.2 ⟨?_, rfl⟩⟩⟩)⟩), rfl⟩
      rw [← GT_mk h1 rfl h4]
    · rw [encT_4 h1] at he
      obtain ⟨k, e1, e2⟩ := Enc_app.1 (show Enc b i ([4] ++ (encList x.parts ++ lebL x.of.toNat)) j from he)
      obtain ⟨k2, e2, e3⟩ := Enc_app.1 e2
      refine ⟨(x, k2), at_ok.2 (bind_ok.2 ⟨4, k, byte_ok.2 e1, pite_ok.2 (.inr ⟨by decide, pite_ok.2 (.inl ⟨rfl, bind_ok.2 ⟨x.parts, k2, (kinds_ok hb (by decide) (by omega)).2 ⟨by omega, h3, e2⟩, at_ok.2 (bind_ok.2 ⟨x.of, j, (number_ok hb).2 ⟨h4, h5, by omega, e3⟩, pure_ok.2 ⟨?_, rfl⟩⟩)⟩⟩)⟩)⟩), rfl⟩
      rw [← GT_mk h1 rfl rfl]
    · rw [encT_o h1] at he
      obtain ⟨k, e1, e2⟩ := Enc_app.1 (show Enc b i ([x.kind] ++ lebL x.of.toNat) j from he)
      refine ⟨(x, k), at_ok.2 (bind_ok.2 ⟨x.kind, k, byte_ok.2 e1, pite_ok.2 (.inr ⟨by omega, pite_ok.2 (.inr ⟨by omega, pite_ok.2 (.inl ⟨h1, at_ok.2 (bind_ok.2 ⟨x.of, j, (number_ok hb).2 ⟨h3, h4, by omega, e2⟩, pure_ok.2 ⟨?_, rfl⟩⟩)⟩)⟩)⟩)⟩), rfl⟩
      rw [← GT_mk rfl h2 rfl]
omit hb in
theorem wr_vty {l : List GT} {x : GT} (h : wrT l x = 0) : vty l.length x := by
  have hth : ∀ z, there l z = true → 0 ≤ z ∧ z < (l.length : Int) + 2 := fun z hz => by simpa [there] using hz
  unfold wrT wr at h
  split at h
  · cases h
  · rename_i h1
    split at h
    · cases h
    · rename_i h2
      split at h
      · cases h
      · rename_i h3
        split at h
        · cases h
        · rename_i h4
          have hall : ∀ z ∈ x.parts, 0 ≤ z ∧ z < (l.length : Int) + 2 := fun z hz => hth z (by
            have : x.parts.all (there l) = true := by simpa using h4
            exact List.all_eq_true.1 this z hz)
          by_cases k2 : x.kind = 2
          · have k5 : ¬ x.kind = 5 := by omega
            rw [if_neg k5, if_pos k2] at h
            by_cases ho : x.of = 0
            · exact .inl ⟨k2, by omega, hall, ho⟩
            · rw [decide_eq_false ho] at h; cases h
          · by_cases k5 : x.kind = 5
            · rw [if_pos k5] at h
              by_cases ho : object l x.of = true
              · have := hth _ (object_there ho)
                exact .inr (.inr ⟨.inr k5, List.eq_nil_of_length_eq_zero (by omega), this.1, this.2⟩)
              · rw [if_neg ho] at h; cases h
            · rw [if_neg k5, if_neg k2] at h
              by_cases ho : there l x.of = true
              · have := hth _ ho
                by_cases k4 : x.kind = 4
                · exact .inr (.inl ⟨k4, by omega, hall, this.1, this.2⟩)
                · exact .inr (.inr ⟨.inl (by omega), List.eq_nil_of_length_eq_zero (by omega), this.1, this.2⟩)
              · rw [if_neg ho] at h; cases h
theorem types_ok {i j : Nat} {ts : List GT} : ptypes b i = .ok ts j ↔ (tr ts).2 = 0 ∧ Enc b i (lebL ts.length ++ ts.flatMap encT) j := by
  unfold ptypes
  rw [bind_ok, Enc_app]
  constructor
  · rintro ⟨n, k, h1, h2⟩
    obtain ⟨g1, g2, g3, g4⟩ := (number_ok hb).1 h1
    obtain ⟨xs, k2, h3, h4⟩ := bind_ok.1 h2
    rcases pite_ok.1 h4 with ⟨ht, h4⟩ | ⟨_, h4⟩
    · obtain ⟨rfl, rfl⟩ := pure_ok.1 h4
      have h5 : prep (pmap (·.1) (ptype n)) n.toNat b k = .ok (xs.map (·.1)) j := by rw [rep_map]; exact map_ok.2 ⟨xs, h3, rfl⟩
      obtain ⟨r1, r2, r3⟩ := (rep_ok (fun i a j => type_ok hb (by omega)) n.toNat).1 h5
      rw [r1]
      exact ⟨ht, k, g4, r3⟩
    · cases h4
  · rintro ⟨ht, k, h1, h2⟩
    obtain ⟨hl, hw⟩ := tr_ok ht
    have h5 := (rep_ok (p := pmap (·.1) (ptype ts.length)) (fun i a j => type_ok hb (by omega)) ts.length (i := k) (j := j) (l := ts)).2 ⟨rfl, fun a ha => wr_vty (hw a ha), h2⟩
    rw [rep_map] at h5
    obtain ⟨xs, h6, h7⟩ := map_ok.1 h5
    refine ⟨ts.length, k, (number_ok hb).2 ⟨by omega, by omega, by omega, by simpa using h1⟩, bind_ok.2 ⟨xs, j, by simpa using h6, ?_⟩⟩
    rw [← h7, if_pos ht]
    exact pure_ok.2 ⟨rfl, rfl⟩
end
end Go.Proofs.YtiijjopdhjpalaaDoor

/-! Reading an image, in plain Lean: functions; the whole. Conditions: none. -/
namespace Go.Proofs.YtiijjopdhjpalaaDoor
open Go
set_option linter.unusedSimpArgs false
set_option linter.unusedVariables false
theorem TK_iff {l : List GT} (ht : (tr l).2 = 0) (n : Int) : 0 ≤ TK (T0 l) n ↔ 0 ≤ n ∧ n < (l.length : Int) + 2 := by
  obtain ⟨hl, hw⟩ := tr_ok ht
  have hl2 : (T0 l).length = l.length + 2 := by simp [T0]
  unfold TK
  constructor
  · intro h
    split at h <;> omega
  · intro h
    rw [if_pos (by omega)]
    have hm := nth_mem (T0 l) n h.1 (by omega)
    unfold T0 at hm
    simp only [List.cons_append, List.nil_append, List.mem_cons] at hm
    rcases hm with e | e | e
    · unfold T0; simp only [List.cons_append, List.nil_append]; rw [e]; decide
    · unfold T0; simp only [List.cons_append, List.nil_append]; rw [e]; decide
    · have := (wr_ok (hw _ e)).1
      unfold T0; simp only [List.cons_append, List.nil_append]
      omega
theorem ir_facts {l : List GT} (ht : (tr l).2 = 0) {nf lo co op a b : Int} (hnf : nf ≤ 50) (hlo : lo ≤ 32) (hco : co ≤ 300) (hi : ir (TK (T0 l)) (TP (T0 l)) nf lo co op a b = true) :
    (form op = 0 → a = 0) ∧ (form op ≠ 7 ∧ form op ≠ 8 → b = 0) ∧ (form op ≠ 0 ∧ form op ≠ 1 → 0 ≤ a ∧ a < 1000) ∧ (form op = 7 ∨ form op = 8 → TK (T0 l) a = kindOf op ∧ 0 ≤ b ∧ b < 1000) ∧ form op ≠ -1 ∧ (form op = 1 → -4611686018427387904 ≤ a ∧ a ≤ 4611686018427387903) := by
  have hb := @form_big op
  have hk := @TK_in l (tr_ok ht).1 a
  have hq := TP_len ht a
  unfold ir at hi
  simp only [ite_tt, decide_eq_true_eq, Bool.false_eq_true, and_false, false_or, or_false] at hi
  omega
theorem GI_mk {x : GI} {op a b : Int} (h1 : x.op = op) (h2 : x.a = a) (h3 : x.b = b) : x = ⟨op, a, b⟩ := by
  cases x; cases h1; cases h2; cases h3; rfl
section
variable {b : List Int} (hb : BB b)
include hb
theorem poper_ok {op : Int} {st i j : Nat} {a : Int} (ha : a < 2147483648 ∨ form op = 1) (hf : foldZ a < 18446744073709551616 ∨ form op ≠ 1) : poper st op b i = .ok a j ↔ form op ≠ -1 ∧ ((form op = 0 ∧ a = 0 ∧ j = i) ∨ (form op = 1 ∧ Enc b i (lebL (foldZ a)) j) ∨ (form op ≠ 0 ∧ form op ≠ 1 ∧ 0 ≤ a ∧ Enc b i (lebL a.toNat) j)) := by
  unfold poper
  rw [pite_ok, pite_ok, pite_ok, pure_ok, fail_ok, int_ok hb, number_ok hb]
  constructor
  · rintro (⟨h, h1, h2⟩ | ⟨h, ⟨_, h1⟩ | ⟨h1, ⟨h2, _, h3⟩ | ⟨h2, h3, h4, h5, h6⟩⟩⟩)
    · exact ⟨by omega, .inl ⟨h, h1, h2⟩⟩
    · exact h1.elim
    · exact ⟨h1, .inr (.inl ⟨h2, h3⟩)⟩
    · exact ⟨h1, .inr (.inr ⟨h, h2, h3, h6⟩)⟩
  · rintro ⟨h, ⟨h1, h2, h3⟩ | ⟨h1, h2⟩ | ⟨h1, h2, h3, h4⟩⟩
    · exact .inl ⟨h1, h2, h3⟩
    · exact .inr ⟨by omega, .inr ⟨h, .inl ⟨h1, by omega, h2⟩⟩⟩
    · exact .inr ⟨h1, .inr ⟨h, .inr ⟨h2, h3, by omega, by omega, h4⟩⟩⟩
theorem poper_bound {op : Int} {st i j : Nat} {a : Int} (h : poper st op b i = .ok a j) : (a < 2147483648 ∨ form op = 1) ∧ (foldZ a < 18446744073709551616 ∨ form op ≠ 1) := by
  unfold poper at h
  rw [pite_ok, pite_ok, pite_ok, pure_ok, fail_ok, int_ok hb, number_ok hb] at h
  rcases h with ⟨h, h1, h2⟩ | ⟨h, ⟨_, h1⟩ | ⟨h1, ⟨h2, h3, _⟩ | ⟨h2, h3, h4, h5, _⟩⟩⟩
  · exact ⟨by omega, by omega⟩
  · exact h1.elim
  · exact ⟨.inr h2, .inl h3⟩
  · exact ⟨.inl h4, .inr h2⟩
theorem instr_ok {ts : List GT} (ht : (tr ts).2 = 0) {nf lo co : Int} (hnf : nf ≤ 50) (hlo : lo ≤ 32) (hco : co ≤ 300) {i j : Nat} {x : GI} :
    pinstr ts nf lo co b i = .ok x j ↔ ir (TK (T0 ts)) (TP (T0 ts)) nf lo co x.op x.a x.b = true ∧ Enc b i (encI x) j := by
  unfold pinstr
  rw [at_ok, bind_ok]
  constructor
  · rintro ⟨op, k, h1, h2⟩
    rw [at_ok] at h2
    obtain ⟨a, k2, h3, h4⟩ := bind_ok.1 h2
    obtain ⟨hb1, hb2⟩ := poper_bound hb h3
    obtain ⟨g0, g⟩ := (poper_ok hb hb1 hb2).1 h3
    have h1 := byte_ok.1 h1
    rcases pite_ok.1 h4 with ⟨htwo, h4⟩ | ⟨htwo, h4⟩
    · rcases pite_ok.1 h4 with ⟨_, h4⟩ | ⟨hk, h4⟩
      · cases h4
      · rw [at_ok] at h4
        obtain ⟨c, k3, h5, h6⟩ := bind_ok.1 h4
        obtain ⟨_, _, _, g5⟩ := (number_ok hb).1 h5
        rcases pite_ok.1 h6 with ⟨hir, h6⟩ | ⟨_, h6⟩
        · obtain ⟨rfl, rfl⟩ := pure_ok.1 h6
          refine ⟨hir, ?_⟩
          rcases g with g | g | ⟨g1, g2, g3, g4⟩
          · omega
          · omega
          · unfold encI encOp
            rw [if_neg g1, if_neg g2, if_pos htwo]
            exact Enc_app.2 ⟨k, h1, Enc_app.2 ⟨k2, g4, g5⟩⟩
        · cases h6
    · rcases pite_ok.1 h4 with ⟨hir, h4⟩ | ⟨_, h4⟩
      · obtain ⟨rfl, rfl⟩ := pure_ok.1 h4
        refine ⟨hir, ?_⟩
        unfold encI encOp
        rcases g with ⟨g1, g2, g3⟩ | ⟨g1, g2⟩ | ⟨g1, g2, g3, g4⟩
        · rw [if_pos g1, List.append_nil, g3]
          exact h1
        · have g3 : ¬ form op = 0 := by omega
          rw [if_neg g3, if_pos g1]
          exact Enc_app.2 ⟨k, h1, g2⟩
        · rw [if_neg g1, if_neg g2, if_neg htwo]
          exact Enc_app.2 ⟨k, h1, g4⟩
      · cases h4
  · rintro ⟨hir, he⟩
    obtain ⟨f0, f1, f2, f3, f4, f5⟩ := ir_facts ht hnf hlo hco hir
    unfold encI at he
    obtain ⟨k, h1, h2⟩ := Enc_app.1 he
    have hfold : form x.op = 1 → foldZ x.a < 18446744073709551616 := fun h => foldZ_lt _ (f5 h).1 (f5 h).2
    have key : ∀ k2, (form x.op ≠ -1 ∧ ((form x.op = 0 ∧ x.a = 0 ∧ k2 = k) ∨ (form x.op = 1 ∧ Enc b k (lebL (foldZ x.a)) k2) ∨ (form x.op ≠ 0 ∧ form x.op ≠ 1 ∧ 0 ≤ x.a ∧ Enc b k (lebL x.a.toNat) k2))) → poper i x.op b k = .ok x.a k2 := fun k2 => (poper_ok hb (by omega) (by omega)).2
    unfold encOp at h2
    by_cases htwo : form x.op = 7 ∨ form x.op = 8
    · rw [if_neg (by omega), if_neg (by omega), if_pos htwo] at h2
      obtain ⟨k2, h3, h4⟩ := Enc_app.1 h2
      obtain ⟨t1, t2, t3⟩ := f3 htwo
      refine ⟨x.op, k, byte_ok.2 h1, at_ok.2 (bind_ok.2 ⟨x.a, k2, key k2 ⟨f4, .inr (.inr ⟨by omega, by omega, by omega, h3⟩)⟩, pite_ok.2 (.inl ⟨htwo, pite_ok.2 (.inr ⟨by simpa using t1, at_ok.2 (bind_ok.2 ⟨x.b, j, (number_ok hb).2 ⟨t2, by omega, by omega, h4⟩, pite_ok.2 (.inl ⟨hir, pure_ok.2 ⟨rfl, rfl⟩⟩)⟩)⟩)⟩)⟩)⟩
    · have hb0 := f1 (by omega)
      have hx : x = ⟨x.op, x.a, 0⟩ := GI_mk rfl rfl hb0
      rw [hb0] at hir
      by_cases c0 : form x.op = 0
      · rw [if_pos c0] at h2
        refine ⟨x.op, k, byte_ok.2 h1, at_ok.2 (bind_ok.2 ⟨x.a, k, key k ⟨f4, .inl ⟨c0, f0 c0, rfl⟩⟩, pite_ok.2 (.inr ⟨htwo, pite_ok.2 (.inl ⟨hir, pure_ok.2 ⟨hx, Enc_nil.1 h2⟩⟩)⟩)⟩)⟩
      · by_cases c1 : form x.op = 1
        · rw [if_neg c0, if_pos c1] at h2
          refine ⟨x.op, k, byte_ok.2 h1, at_ok.2 (bind_ok.2 ⟨x.a, j, key j ⟨f4, .inr (.inl ⟨c1, h2⟩)⟩, pite_ok.2 (.inr ⟨htwo, pite_ok.2 (.inl ⟨hir, pure_ok.2 ⟨hx, rfl⟩⟩)⟩)⟩)⟩
        · rw [if_neg c0, if_neg c1, if_neg htwo] at h2
          refine ⟨x.op, k, byte_ok.2 h1, at_ok.2 (bind_ok.2 ⟨x.a, j, key j ⟨f4, .inr (.inr ⟨c0, c1, by omega, h2⟩)⟩, pite_ok.2 (.inr ⟨htwo, pite_ok.2 (.inl ⟨hir, pure_ok.2 ⟨hx, rfl⟩⟩)⟩)⟩)⟩
end
theorem code_map (ts : List GT) (nf lo co : Int) : pmap (·.1) (pcode ts nf lo co) = pinstr ts nf lo co := by
  funext b i
  simp only [pmap, pcode, pbind, pat, ppure]
  cases pinstr ts nf lo co b i <;> rfl
section
variable {b : List Int} (hb : BB b)
include hb
theorem func_ok {ts : List GT} (ht : (tr ts).2 = 0) {nf : Int} (hnf : nf ≤ 50) {first : Bool} {i j : Nat} {f : GF} :
    pfunc ts nf first b i = .ok f j ↔ (fokT (TK (T0 ts)) (TP (T0 ts)) nf f = true ∧ (first = true → f.params.length = 0 ∧ f.result = 0)) ∧ Enc b i (encF f) j := by
  have hl := (tr_ok ht).1
  unfold pfunc
  rw [at_ok, bind_ok]
  constructor
  · rintro ⟨n, k, h1, h2⟩
    obtain ⟨n0, n1, _, hn⟩ := (number_ok hb).1 h1
    rcases pite_ok.1 h2 with ⟨_, h2⟩ | ⟨hfn, h2⟩
    · cases h2
    obtain ⟨ps, k2, h3, h4⟩ := bind_ok.1 h2
    obtain ⟨p1, p2, hps⟩ := (list_ok hb (by omega)).1 h3
    rw [at_ok] at h4
    obtain ⟨r, k3, h5, h6⟩ := bind_ok.1 h4
    obtain ⟨r0, r1, _, hr⟩ := (number_ok hb).1 h5
    rcases pite_ok.1 h6 with ⟨_, h6⟩ | ⟨hfr, h6⟩
    · cases h6
    obtain ⟨lo, k4, h7, h8⟩ := bind_ok.1 h6
    obtain ⟨l0, l1, _, hlo⟩ := (number_ok hb).1 h7
    rw [at_ok] at h8
    obtain ⟨size, k5, h9, h10⟩ := bind_ok.1 h8
    obtain ⟨s0, s1, _, hs⟩ := (number_ok hb).1 h9
    obtain ⟨cs, k6, h11, h12⟩ := bind_ok.1 h10
    have h13 : prep (pinstr ts nf (n + lo) size) size.toNat b k5 = .ok (cs.map (·.1)) k6 := by
      rw [← code_map, rep_map]
      exact map_ok.2 ⟨cs, h11, rfl⟩
    obtain ⟨c1, c2, hc⟩ := (rep_ok (fun i a j => instr_ok hb ht hnf (by omega) (by omega)) size.toNat).1 h13
    have hcl : cs.length = size.toNat := by simpa using c1
    rcases pite_ok.1 h12 with ⟨_, h12⟩ | ⟨hsz, h12⟩
    · cases h12
    rcases pite_ok.1 h12 with ⟨_, h12⟩ | ⟨hend, h12⟩
    · cases h12
    obtain ⟨rfl, rfl⟩ := pure_ok.1 h12
    have hpl : (ps.length : Int) = n := by omega
    have hcm : ((cs.map (·.1)).length : Int) = size := by rw [c1]; omega
    have htr := (TK_iff ht r).2 ⟨r0, by omega⟩
    refine ⟨⟨?_, fun h => ⟨?_, ?_⟩⟩, ?_⟩
    · unfold fokT
      rw [if_neg (by simp only [hcm, hpl]; simp only [List.length_map]; omega)]
      simp only [Bool.and_eq_true]
      refine ⟨⟨List.all_eq_true.2 fun z hz => ?_, List.all_eq_true.2 fun x hx => ?_⟩, ?_⟩
      · have := p2 z hz
        exact decide_eq_true ((TK_iff ht z).2 ⟨this.1, by omega⟩)
      · have := c2 x hx
        rw [hpl, hcm]
        exact this
      · have hlast : nth (cs.map (·.1)) ((cs.map (·.1)).length - 1) = (lastOp cs).1 := by
          rw [List.length_map]
          exact nth_map (f := Prod.fst) (l := cs) (by omega) (by omega)
        simp only [hlast]
        simpa using hend
    · by_cases hn0 : 0 < n
      · exact absurd ⟨h, hn0⟩ hfn
      · show ps.length = 0
        omega
    · by_cases hr0 : r = 0
      · exact hr0
      · exact absurd ⟨h, hr0⟩ hfr
    · unfold encF encList
      simp only
      rw [show ps.length = n.toNat by omega, show (cs.map (·.1)).length = size.toNat by omega]
      exact Enc_app.2 ⟨k5, Enc_app.2 ⟨k4, Enc_app.2 ⟨k3, Enc_app.2 ⟨k2, Enc_app.2 ⟨k, hn, hps⟩, hr⟩, hlo⟩, hs⟩, hc⟩
  · rintro ⟨⟨hf, hfst⟩, he⟩
    unfold encF encList at he
    obtain ⟨k5, he, hc⟩ := Enc_app.1 he
    obtain ⟨k4, he, hs⟩ := Enc_app.1 he
    obtain ⟨k3, he, hlo⟩ := Enc_app.1 he
    obtain ⟨k2, he, hr⟩ := Enc_app.1 he
    obtain ⟨k, hn, hps⟩ := Enc_app.1 he
    unfold fokT at hf
    split at hf
    · cases hf
    rename_i hcond
    simp only [Bool.and_eq_true, List.all_eq_true] at hf
    obtain ⟨⟨f1, f2⟩, f3⟩ := hf
    have hres := (TK_iff ht f.result).1 (by omega)
    have hpar : ∀ z ∈ f.params, 0 ≤ z ∧ z < (ts.length : Int) + 2 := fun z hz => (TK_iff ht z).1 (of_decide_eq_true (f1 z hz))
    have hcode := (rep_ok (p := pinstr ts nf (f.params.length + f.locals) f.code.length) (fun i a j => instr_ok hb ht hnf (by omega) (by omega)) f.code.length (i := k5) (j := j) (l := f.code)).2 ⟨rfl, fun x hx => f2 x hx, hc⟩
    rw [← code_map, rep_map] at hcode
    obtain ⟨cs, h1, h2⟩ := map_ok.1 hcode
    have hcl : cs.length = f.code.length := by rw [h2, List.length_map]
    refine ⟨f.params.length, k, (number_ok hb).2 ⟨by omega, by omega, by omega, by simpa using hn⟩, pite_ok.2 (.inr ⟨fun h => by have := hfst h.1; omega, bind_ok.2 ⟨f.params, k2, ?_, at_ok.2 (bind_ok.2 ⟨f.result, k3, (number_ok hb).2 ⟨hres.1, hres.2, by omega, hr⟩, pite_ok.2 (.inr ⟨fun h => h.2 (hfst h.1).2, bind_ok.2 ⟨f.locals, k4, (number_ok hb).2 ⟨by omega, by omega, by omega, hlo⟩, at_ok.2 (bind_ok.2 ⟨f.code.length, k5, (number_ok hb).2 ⟨by omega, by omega, by omega, by simpa using hs⟩, bind_ok.2 ⟨cs, j, by simpa using h1, pite_ok.2 (.inr ⟨by omega, pite_ok.2 (.inr ⟨?_, pure_ok.2 ⟨?_, rfl⟩⟩)⟩)⟩⟩)⟩⟩)⟩)⟩⟩)⟩
    · exact (list_ok hb (by omega)).2 ⟨by simp, hpar, hps⟩
    · have hlast : nth f.code (f.code.length - 1) = (lastOp cs).1 := by
        rw [h2, List.length_map]
        exact nth_map (f := Prod.fst) (l := cs) (by omega) (by omega)
      rw [hlast] at f3
      rw [f3]
      decide
    · exact GF_eq rfl rfl rfl h2
omit hb in
theorem magic_ok : ∀ (l : List Int) {i j : Nat} {u : Unit}, pmagic l b i = .ok u j ↔ Enc b i l j
  | [], i, j, u => by
    unfold pmagic
    rw [pure_ok, Enc_nil]
    exact ⟨fun h => h.2, fun h => ⟨rfl, h⟩⟩
  | c :: l, i, j, u => by
    unfold pmagic
    rw [at_ok, bind_ok, show c :: l = [c] ++ l from rfl, Enc_app]
    constructor
    · rintro ⟨d, k, h1, h2⟩
      rcases pite_ok.1 h2 with ⟨_, h3⟩ | ⟨hd, h3⟩
      · cases h3
      · obtain rfl : d = c := by simpa using hd
        exact ⟨k, byte_ok.1 h1, (magic_ok l).1 h3⟩
    · rintro ⟨k, h1, h2⟩
      exact ⟨c, k, byte_ok.2 h1, pite_ok.2 (.inr ⟨by simp, (magic_ok l).2 h2⟩)⟩
theorem body_ok {i j : Nat} {p : GP} : pbody b i = .ok p j ↔ rokT p = true ∧ Enc b i (encP p) j := by
  unfold pbody
  rw [bind_ok]
  constructor
  · rintro ⟨u, k, h1, h2⟩
    have hm := (magic_ok _).1 h1
    obtain ⟨ts, k2, h3, h4⟩ := bind_ok.1 h2
    obtain ⟨ht, hts⟩ := (types_ok hb).1 h3
    rw [at_ok] at h4
    obtain ⟨nf, k3, h5, h6⟩ := bind_ok.1 h4
    obtain ⟨n0, n1, _, hn⟩ := (number_ok hb).1 h5
    rcases pite_ok.1 h6 with ⟨_, h6⟩ | ⟨hnz, h6⟩
    · cases h6
    obtain ⟨fs, k4, h7, h8⟩ := bind_ok.1 h6
    obtain ⟨rfl, rfl⟩ := pure_ok.1 h8
    unfold pfuncs at h7
    obtain ⟨f, k5, h9, h10⟩ := bind_ok.1 h7
    obtain ⟨l, k6, h11, h12⟩ := bind_ok.1 h10
    obtain ⟨rfl, rfl⟩ := pure_ok.1 h12
    obtain ⟨⟨g1, g2⟩, g3⟩ := (func_ok hb ht (by omega)).1 h9
    obtain ⟨r1, r2, r3⟩ := (rep_ok (fun i a j => func_ok hb ht (by omega)) (nf.toNat - 1)).1 h11
    have hnl : (((f :: l).length : Nat) : Int) = nf := by rw [List.length_cons, r1]; omega
    refine ⟨?_, ?_⟩
    · unfold rokT
      simp only [Bool.and_eq_true, decide_eq_true_eq, List.all_eq_true]
      refine ⟨⟨⟨ht, by omega⟩, g2 rfl⟩, fun x hx => ?_⟩
      rw [hnl]
      rcases List.mem_cons.1 hx with rfl | hx
      · exact g1
      · exact (r2 x hx).1
    · unfold encP encHead
      simp only
      rw [show (f :: l).length = nf.toNat by omega, List.flatMap_cons]
      obtain ⟨k7, e1, e2⟩ := Enc_app.1 hts
      exact Enc_app.2 ⟨k3, Enc_app.2 ⟨k2, Enc_app.2 ⟨k7, Enc_app.2 ⟨k, hm, e1⟩, e2⟩, hn⟩, Enc_app.2 ⟨k5, g3, r3⟩⟩
  · rintro ⟨hr, he⟩
    have hr2 := hr
    unfold rokT at hr
    simp only [Bool.and_eq_true, decide_eq_true_eq, List.all_eq_true] at hr
    obtain ⟨⟨⟨ht, hl⟩, hf0⟩, hall⟩ := hr
    unfold encP encHead at he
    obtain ⟨k3, he, hfs⟩ := Enc_app.1 he
    obtain ⟨k2, he, hn⟩ := Enc_app.1 he
    obtain ⟨k7, he, e2⟩ := Enc_app.1 he
    obtain ⟨k, hm, e1⟩ := Enc_app.1 he
    obtain ⟨ts, fs⟩ := p
    cases fs with
    | nil => simp at hl
    | cons f l =>
      simp only [List.length_cons] at hl hn
      rw [List.flatMap_cons] at hfs
      obtain ⟨k5, g1, g2⟩ := Enc_app.1 hfs
      refine ⟨(), k, (magic_ok _).2 hm, bind_ok.2 ⟨ts, k2, (types_ok hb).2 ⟨ht, Enc_app.2 ⟨k7, e1, e2⟩⟩, at_ok.2 (bind_ok.2 ⟨(l.length + 1 : Nat), k3, (number_ok hb).2 ⟨by omega, by omega, by omega, by simpa using hn⟩, pite_ok.2 (.inr ⟨by omega, bind_ok.2 ⟨f :: l, j, bind_ok.2 ⟨f, k5, (func_ok hb ht (by omega)).2 ⟨⟨?_, fun _ => hf0⟩, g1⟩, bind_ok.2 ⟨l, j, ?_, pure_ok.2 ⟨rfl, rfl⟩⟩⟩, pure_ok.2 ⟨rfl, rfl⟩⟩⟩)⟩)⟩⟩
      · exact hall f (List.mem_cons_self ..)
      · refine (rep_ok (fun i a j => func_ok hb ht (by omega)) _).2 ⟨by simp, fun x hx => ⟨hall x (List.mem_cons_of_mem _ hx), fun h => (by cases h)⟩, g2⟩
end
/-! ### What follows -/
theorem Enc_whole {b l : List Int} {j : Nat} (h : Enc b 0 l j) (hj : j = b.length) : b = l := by
  obtain ⟨h1, h2⟩ := h
  rw [hj, List.drop_length, List.append_nil, List.drop_zero] at h2
  exact h2
theorem Enc_self (l x : List Int) : Enc (l ++ x) 0 l l.length := by
  refine ⟨by omega, ?_⟩
  rw [List.drop_zero, List.drop_left]
theorem lebL_BB (n : Nat) : BB (lebL n) := by
  induction n using Nat.strongRecOn with
  | _ n ih =>
    by_cases h : n < 128
    · rw [lebL_lt h]
      intro z hz
      simp only [List.mem_cons, List.not_mem_nil, or_false] at hz
      omega
    · rw [lebL_ge h]
      intro z hz
      rcases List.mem_cons.1 hz with rfl | hz
      · omega
      · exact ih (n / 128) (by omega) z hz
theorem BB.app {a b : List Int} (ha : BB a) (hb : BB b) : BB (a ++ b) := fun z hz => by
  rcases List.mem_append.1 hz with h | h
  · exact ha z h
  · exact hb z h
theorem BB_flat {α : Type} {l : List α} {f : α → List Int} (h : ∀ x ∈ l, BB (f x)) : BB (l.flatMap f) := fun z hz => by
  obtain ⟨x, hx, hz⟩ := List.mem_flatMap.1 hz
  exact h x hx z hz
theorem BB_one {c : Int} (h : 0 ≤ c ∧ c < 256) : BB [c] := fun z hz => by
  simp only [List.mem_cons, List.not_mem_nil, or_false] at hz
  rw [hz]; exact h
theorem encList_BB (l : List Int) : BB (encList l) := (lebL_BB _).app (BB_flat fun _ _ => lebL_BB _)
theorem encT_BB {x : GT} (h : tyOk x) : BB (encT x) := by
  obtain ⟨h1, h2, _⟩ := h
  refine ((BB_one ⟨by omega, by omega⟩).app ?_).app ?_
  · split
    · exact encList_BB _
    · exact fun z hz => by cases hz
  · split
    · exact fun z hz => by cases hz
    · exact lebL_BB _
theorem encI_BB {i : GI} (h : inOk i) : BB (encI i) := by
  obtain ⟨h1, h2, _⟩ := h
  refine (BB_one ⟨by omega, by omega⟩).app ?_
  unfold encOp
  split
  · exact fun z hz => by cases hz
  · split
    · exact lebL_BB _
    · split
      · exact (lebL_BB _).app (lebL_BB _)
      · exact lebL_BB _
theorem encF_BB {f : GF} (h : fnOk f) : BB (encF f) := ((((encList_BB _).app (lebL_BB _)).app (lebL_BB _)).app (lebL_BB _)).app (BB_flat fun x hx => encI_BB (h.2.2.2.2.2 x hx))
theorem encP_BB {p : GP} (h : rokT p = true) : BB (encP p) := by
  obtain ⟨⟨_, _, h1⟩, _, h2, _⟩ := rokT_ok h
  refine ((BB.app (BB.app ?_ (lebL_BB _)) (BB_flat fun x hx => encT_BB (h1 x hx))).app (lebL_BB _)).app (BB_flat fun x hx => encF_BB (h2 x hx).1)
  intro z hz
  simp only [List.mem_cons, List.not_mem_nil, or_false] at hz
  omega
/-- What a right program is written as is read as it, whatever stands behind. -/
theorem body_back {p : GP} (h : rokT p = true) (x : List Int) : pbody (encP p ++ x) 0 = .ok p (encP p).length := by
  have h0 : pbody (encP p) 0 = .ok p (encP p).length := by
    have := Enc_self (encP p) []
    rw [List.append_nil] at this
    exact (body_ok (encP_BB h)).2 ⟨h, this⟩
  have g := good_body (encP p) 0 (Nat.le_refl _) (Nat.zero_le _)
  rw [h0] at g
  exact g.2.2.2 x
/-- Unlike programs, unlike images. -/
theorem encP_inj {p q : GP} (hp : rokT p = true) (hq : rokT q = true) (h : encP p = encP q) : p = q := by
  have a := body_back hp []
  have b := body_back hq []
  rw [List.append_nil] at a b
  rw [h, b] at a
  injection a with a _
  exact a.symm
end Go.Proofs.YtiijjopdhjpalaaDoor

/-! Reading an image, in plain Lean: what follows. Conditions: none. -/
namespace Go.Proofs.YtiijjopdhjpalaaDoor
open Go
set_option linter.unusedSimpArgs false
set_option linter.unusedVariables false
theorem dec_long {b : List Int} (h : 1048576 < b.length) : dec b = .bad 1048576 5 := by
  unfold dec
  rw [if_pos h]
theorem decB_ok {b : List Int} (hb : BB b) {p : GP} {j : Nat} (h : dec b = .ok p j) : b.length ≤ 1048576 ∧ rokT p = true ∧ b = encP p := by
  unfold dec at h
  split at h
  · cases h
  · rename_i hl
    cases hr : pbody b 0 with
    | bad k e => rw [hr] at h; cases h
    | ok q k =>
      rw [hr] at h
      simp only at h
      split at h
      · cases h
      · cases h
        have g := good_body b 0 (Nat.le_refl _) (Nat.zero_le _)
        rw [hr] at g
        obtain ⟨h1, h2⟩ := (body_ok hb).1 hr
        exact ⟨by omega, h1, Enc_whole h2 (by have := g.2.1; omega)⟩
theorem dec_back {p : GP} (h : rokT p = true) (x : List Int) (hl : (encP p ++ x).length ≤ 1048576) : dec (encP p ++ x) = if x = [] then .ok p (encP p).length else .bad (encP p).length 10 := by
  unfold dec
  rw [if_neg (by omega), body_back h x]
  simp only
  by_cases e : x = []
  · subst e
    rw [if_pos rfl, if_neg (by simp)]
  · have : 0 < x.length := by
      cases x with
      | nil => exact absurd rfl e
      | cons => simp
    rw [if_neg e, if_pos (by simp; omega)]
theorem dec_cut {p : GP} (h : rokT p = true) {c : Nat} (hc : c < (encP p).length) : dec ((encP p).take c) = .bad c 2 := by
  have hl := encP_len h
  have g := good_body (encP p) 0 (Nat.le_refl _) (Nat.zero_le _)
  have h0 := body_back h []
  rw [List.append_nil] at h0
  rw [h0] at g
  have hc2 := g.2.2.1 c (Nat.zero_le _) (by omega)
  rw [if_neg (by omega)] at hc2
  unfold dec
  rw [if_neg (by rw [List.length_take]; omega), hc2]
theorem dec_bad {b : List Int} {k : Nat} {e : Int} (h : dec b = .bad k e) : k ≤ b.length ∧ 1 ≤ e ∧ e ≤ 30 := by
  unfold dec at h
  split at h
  · cases h
    exact ⟨by omega, by decide, by decide⟩
  · have g := good_body b 0 (Nat.le_refl _) (Nat.zero_le _)
    cases hr : pbody b 0 with
    | bad k e =>
      rw [hr] at h g
      cases h
      exact ⟨g.1, g.2.1, g.2.2.1⟩
    | ok q k =>
      rw [hr] at h g
      simp only at h g
      split at h
      · cases h
        exact ⟨g.2.1, by decide, by decide⟩
      · cases h
theorem dec_front {b x : List Int} {k : Nat} {e : Int} (h : dec b = .bad k e) (he : e ≠ 2) (hl : b.length + x.length ≤ 1048576) : dec (b ++ x) = .bad k e := by
  unfold dec at h ⊢
  rw [if_neg (by omega)] at h
  rw [if_neg (by rw [List.length_append]; omega)]
  have g := good_body b 0 (Nat.le_refl _) (Nat.zero_le _)
  cases hr : pbody b 0 with
  | bad k' e' =>
    rw [hr] at h g
    cases h
    rw [g.2.2.2 he x]
  | ok q k' =>
    rw [hr] at h g
    simp only at h g
    split at h
    · cases h
      rw [g.2.2.2 x]
      simp only
      rw [if_pos (by rw [List.length_append]; omega)]
    · cases h
theorem rok_wf {p : GP} (h : rokT p = true) : p.wf := by
  obtain ⟨⟨h0, h1, h2⟩, h3, h4, _⟩ := rokT_ok h
  have hm : maxLen = 9223372036854775807 := rfl
  have i6 : ∀ z : Int, -9223372036854775808 ≤ z → z ≤ 9223372036854775807 → i64 z := fun z a b => i64_iff.2 ⟨a, b⟩
  refine ⟨by omega, fun x hx => ?_, by omega, fun f hf => ?_⟩
  · obtain ⟨a1, a2, a3, a4, a5, a6⟩ := h2 x hx
    exact ⟨i6 _ (by omega) (by omega), by omega, fun z hz => i6 _ (by have := a4 z hz; omega) (by have := a4 z hz; omega), i6 _ (by omega) (by omega)⟩
  · obtain ⟨⟨a1, a2, a3, a4, a5, a6⟩, hk⟩ := h4 f hf
    unfold fokT at hk
    split at hk
    · cases hk
    rename_i hc
    simp only [Bool.and_eq_true, List.all_eq_true] at hk
    refine ⟨by omega, fun z hz => i6 _ (by have := a2 z hz; omega) (by have := a2 z hz; omega), i6 _ (by omega) (by omega), i6 _ (by omega) (by omega), by omega, fun i hi => ?_⟩
    obtain ⟨b1, b2, _⟩ := a6 i hi
    have := ir_facts h0 (by omega) (by omega) (by omega) (hk.1.2 i hi)
    exact ⟨i6 _ (by omega) (by omega), i6 _ (by omega) (by omega), i6 _ (by omega) (by omega)⟩
end Go.Proofs.YtiijjopdhjpalaaDoor
