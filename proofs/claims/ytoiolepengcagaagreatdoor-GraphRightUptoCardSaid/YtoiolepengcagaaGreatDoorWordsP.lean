/- Words on lists of bytes: the parts between blanks; what strings.FieldsFunc gives at blanks are these. Conditions: none. -/
import Derived.Lib.FieldsP
import Derived.Lib.DecodeN
import Derived.Lib.SlTrimSet
import Derived.Lib.Join
import Derived.Lib.Strings
namespace Go.Proofs.YtoiolepengcagaaGreatDoor
def blk (c : UInt8) : Bool := c == 32 || c == 9
def pblk (r : Nat) : Bool := r == 32 || r == 9
def wgo : List UInt8 → List UInt8 → List (List UInt8)
  | cur, [] => if cur = [] then [] else [cur]
  | cur, c :: l => if blk c = true then (if cur = [] then wgo [] l else cur :: wgo [] l) else wgo (cur ++ [c]) l
def wordsL (l : List UInt8) : List (List UInt8) := wgo [] l
theorem wgo_nil (cur : List UInt8) : wgo cur [] = if cur = [] then [] else [cur] := by rw [wgo]
theorem wgo_cons (cur : List UInt8) (c : UInt8) (l : List UInt8) : wgo cur (c :: l) = if blk c = true then (if cur = [] then wgo [] l else cur :: wgo [] l) else wgo (cur ++ [c]) l := by rw [wgo]
theorem wgo_word {u : List UInt8} (hu : ∀ c ∈ u, blk c = false) : ∀ cur l, wgo cur (u ++ l) = wgo (cur ++ u) l := by
  induction u with
  | nil => intro cur l; simp
  | cons c u ih =>
    intro cur l
    have hc := hu c List.mem_cons_self
    rw [List.cons_append, wgo_cons, hc, if_neg (by decide), ih (fun d hd => hu d (List.mem_cons_of_mem _ hd)), List.append_assoc]
    rfl
theorem wgo_blanks {u : List UInt8} (hu : ∀ c ∈ u, blk c = true) : ∀ cur, wgo cur u = if cur = [] then [] else [cur] := by
  induction u with
  | nil => intro cur; exact wgo_nil cur
  | cons c u ih =>
    intro cur
    have hi := ih (fun d hd => hu d (List.mem_cons_of_mem _ hd)) []
    rw [if_pos rfl] at hi
    rw [wgo_cons, if_pos (hu c List.mem_cons_self), hi]
theorem wgo_end {u : List UInt8} (hu : ∀ c ∈ u, blk c = true) : ∀ l cur, wgo cur (l ++ u) = wgo cur l := by
  intro l
  induction l with
  | nil => intro cur; rw [List.nil_append, wgo_blanks hu, wgo_nil]
  | cons c l ih =>
    intro cur
    rw [List.cons_append, wgo_cons, wgo_cons, ih, ih]
theorem words_left {u l : List UInt8} (hu : ∀ c ∈ u, blk c = true) : wordsL (u ++ l) = wordsL l := by
  induction u with
  | nil => rfl
  | cons c u ih =>
    show wgo [] (c :: (u ++ l)) = _
    rw [wgo_cons, if_pos (hu c List.mem_cons_self), if_pos rfl]
    exact ih (fun d hd => hu d (List.mem_cons_of_mem _ hd))
theorem words_right {u l : List UInt8} (hu : ∀ c ∈ u, blk c = true) : wordsL (l ++ u) = wordsL l := wgo_end hu l []
/-- a word -/
def WordL (w : List UInt8) : Prop := w ≠ [] ∧ ∀ c ∈ w, blk c = false
theorem wgo_all : ∀ l cur, (∀ c ∈ cur, blk c = false) → ∀ w ∈ wgo cur l, WordL w := by
  intro l
  induction l with
  | nil =>
    intro cur hc w hw
    rw [wgo_nil] at hw
    split at hw
    · cases hw
    · rename_i h
      have : w = cur := by simpa using hw
      subst this
      exact ⟨h, hc⟩
  | cons c l ih =>
    intro cur hc w hw
    rw [wgo_cons] at hw
    split at hw
    · split at hw
      · exact ih [] (fun _ h => by cases h) w hw
      · rename_i h
        rcases List.mem_cons.1 hw with rfl | hw
        · exact ⟨h, hc⟩
        · exact ih [] (fun _ h => by cases h) w hw
    · rename_i h
      refine ih _ (fun d hd => ?_) w hw
      rcases List.mem_append.1 hd with hd | hd
      · exact hc d hd
      · have : d = c := by simpa using hd
        subst this
        simpa using h
theorem words_all (l : List UInt8) : ∀ w ∈ wordsL l, WordL w := wgo_all l [] (fun _ h => by cases h)
theorem wgo_empty : ∀ l cur, wgo cur l = [] ↔ cur = [] ∧ ∀ c ∈ l, blk c = true := by
  intro l
  induction l with
  | nil =>
    intro cur
    rw [wgo_nil]
    split
    · rename_i h; simp [h]
    · rename_i h; simp [h]
  | cons c l ih =>
    intro cur
    rw [wgo_cons]
    split
    · rename_i hc
      split
      · rename_i h; subst h; rw [ih]; simp [hc]
      · rename_i h; simp [h]
    · rename_i hc
      rw [ih]
      simp [hc]
theorem words_empty (l : List UInt8) : wordsL l = [] ↔ ∀ c ∈ l, blk c = true := by
  rw [wordsL, wgo_empty]; simp
/-! ### joined by one blank -/
theorem join_two (x y : List UInt8) (r : List (List UInt8)) (sep : List UInt8) : Lib.join (x :: y :: r) sep = x ++ sep ++ Lib.join (y :: r) sep := by
  unfold Lib.join
  simp [List.intercalate, List.intersperse]
theorem words_join_go (e : List UInt8) (he : ∀ c ∈ e, blk c = true) : ∀ ws : List (List UInt8), (∀ w ∈ ws, WordL w) → wordsL (Lib.join ws [32] ++ e) = ws := by
  intro ws
  induction ws with
  | nil =>
    intro _
    rw [Lib.join_nil, List.nil_append]
    exact (words_empty e).2 he
  | cons x r ih =>
    intro h
    have hx := h x List.mem_cons_self
    cases r with
    | nil =>
      rw [Lib.join_one]
      unfold wordsL
      rw [wgo_word hx.2, List.nil_append, wgo_blanks he, if_neg hx.1]
    | cons y r =>
      rw [join_two]
      have : wordsL (x ++ [32] ++ Lib.join (y :: r) [32] ++ e) = x :: wordsL (Lib.join (y :: r) [32] ++ e) := by
        unfold wordsL
        rw [List.append_assoc, List.append_assoc, wgo_word hx.2, List.nil_append, List.singleton_append, wgo_cons, if_pos (by decide), if_neg hx.1]
      rw [this, ih (fun w hw => h w (List.mem_cons_of_mem _ hw))]
theorem words_join {ws : List (List UInt8)} (h : ∀ w ∈ ws, WordL w) : wordsL (Lib.join ws [32]) = ws := by
  have := words_join_go [] (fun _ h => by cases h) ws h
  rwa [List.append_nil] at this
/-! ### trimmed -/
theorem blk_has (c : UInt8) : ([32, 9] : List UInt8).contains c = blk c := by
  unfold blk
  simp only [List.contains, List.elem]
  cases (c == 32) <;> cases (c == 9) <;> rfl
theorem dropWhile_split (p : UInt8 → Bool) (l : List UInt8) : ∃ u, l = u ++ l.dropWhile p ∧ ∀ c ∈ u, p c = true := by
  induction l with
  | nil => exact ⟨[], rfl, fun _ h => by cases h⟩
  | cons c l ih =>
    rw [List.dropWhile_cons]
    split
    · rename_i hc
      obtain ⟨u, e, hu⟩ := ih
      refine ⟨c :: u, by rw [List.cons_append, ← e], fun d hd => ?_⟩
      rcases List.mem_cons.1 hd with rfl | hd
      · exact hc
      · exact hu d hd
    · exact ⟨[], rfl, fun _ h => by cases h⟩
theorem words_trim (l : List UInt8) : wordsL (Lib.trimS l [32, 9]) = wordsL l := by
  unfold Lib.trimS
  have h1 : ∀ l, wordsL (Lib.trimLeftS l [32, 9]) = wordsL l := by
    intro l
    obtain ⟨u, e, hu⟩ := dropWhile_split (fun c => ([32, 9] : List UInt8).contains c) l
    conv => rhs; rw [e]
    rw [words_left (fun c hc => by rw [← blk_has]; exact hu c hc)]
    rfl
  rw [h1]
  obtain ⟨u, e, hu⟩ := dropWhile_split (fun c => ([32, 9] : List UInt8).contains c) l.reverse
  have e2 : l = Lib.trimRightS l [32, 9] ++ u.reverse := by
    unfold Lib.trimRightS
    rw [← List.reverse_append, ← e, List.reverse_reverse]
  conv => rhs; rw [e2]
  rw [words_right (fun c hc => by rw [← blk_has]; exact hu c (List.mem_reverse.1 hc))]
theorem trim_empty (l : List UInt8) : Lib.trimS l [32, 9] = [] ↔ ∀ c ∈ l, blk c = true := by
  have hd : ∀ l : List UInt8, Lib.trimLeftS l [32, 9] = [] ↔ ∀ c ∈ l, blk c = true := by
    intro l
    unfold Lib.trimLeftS
    induction l with
    | nil => simp
    | cons c l ih =>
      rw [List.dropWhile_cons, blk_has]
      split
      · rename_i h; rw [ih]; simp [h]
      · rename_i h; simp [h]
  unfold Lib.trimS
  rw [hd]
  obtain ⟨u, e, hu⟩ := dropWhile_split (fun c => ([32, 9] : List UInt8).contains c) l.reverse
  have e2 : l = Lib.trimRightS l [32, 9] ++ u.reverse := by
    unfold Lib.trimRightS
    rw [← List.reverse_append, ← e, List.reverse_reverse]
  refine ⟨fun h c hc => ?_, fun h c hc => h c (by rw [e2]; exact List.mem_append_left _ hc)⟩
  rw [e2] at hc
  rcases List.mem_append.1 hc with hc | hc
  · exact h c hc
  · rw [← blk_has]; exact hu c (List.mem_reverse.1 hc)
/-! ### the pieces of FieldsFunc -/
theorem get_lt {s : ByteArray} {i : Nat} (h : i < s.size) : s.get! i = s[i] := by
  show s.data[i]! = _
  rw [getElem!_pos s.data i h]; rfl
theorem get_ge {s : ByteArray} {i : Nat} (h : ¬ i < s.size) : (s.get! i).toNat = 0 := by
  show (s.data[i]!).toNat = 0
  rw [getElem!_neg s.data i (by exact h)]; rfl
/-- a rune beyond ASCII: its width, and that its bytes are none of ASCII's -/
theorem decode_bytes (s : ByteArray) (i : Nat) (h : i < s.size) (hc : 128 ≤ s[i].toNat) :
    128 ≤ (Utf8.decode s i).1 ∧ 1 ≤ (Utf8.decode s i).2 ∧ i + (Utf8.decode s i).2 ≤ s.size ∧ ∀ j, j < (Utf8.decode s i).2 → ∃ hj : i + j < s.size, 128 ≤ (s[i + j]'hj).toNat := by
  have h0 : (s.get! i).toNat = s[i].toNat := by rw [get_lt h]
  have key : ∀ k, (s.get! (i + k)).toNat / 64 = 2 → k < s.size - i → ∃ hj : i + k < s.size, 128 ≤ (s[i + k]'hj).toNat := by
    intro k hk hlt
    refine ⟨by omega, ?_⟩
    rw [get_lt (by omega)] at hk
    omega
  rw [Lib.decode_at]
  generalize hb1 : (s.get! (i + 1)).toNat = b1
  generalize hb2 : (s.get! (i + 2)).toNat = b2
  generalize hb3 : (s.get! (i + 3)).toNat = b3
  rw [h0]
  have k1 : b1 / 64 = 2 → 1 < s.size - i → ∃ hj : i + 1 < s.size, 128 ≤ (s[i + 1]'hj).toNat := fun a b => key 1 (by rw [hb1]; exact a) b
  have k2 : b2 / 64 = 2 → 2 < s.size - i → ∃ hj : i + 2 < s.size, 128 ≤ (s[i + 2]'hj).toNat := fun a b => key 2 (by rw [hb2]; exact a) b
  have k3 : b3 / 64 = 2 → 3 < s.size - i → ∃ hj : i + 3 < s.size, 128 ≤ (s[i + 3]'hj).toNat := fun a b => key 3 (by rw [hb3]; exact a) b
  have k0 : ∃ hj : i + 0 < s.size, 128 ≤ (s[i + 0]'hj).toNat := ⟨h, hc⟩
  have one : ∀ j, j < 1 → ∃ hj : i + j < s.size, 128 ≤ (s[i + j]'hj).toNat := fun j hj => by
    obtain rfl : j = 0 := by omega
    exact k0
  unfold Lib.decodeN
  rw [if_neg (by omega)]
  split
  · rename_i g
    split
    · rename_i g2
      refine ⟨g2, by show 1 ≤ 2; omega, by show i + 2 ≤ s.size; omega, fun j hj => ?_⟩
      match j, hj with
      | 0, _ => exact k0
      | 1, _ => exact k1 g.2.2 g.2.1
    · exact ⟨by show 128 ≤ 65533; omega, Nat.le_refl 1, by show i + 1 ≤ s.size; omega, one⟩
  · split
    · rename_i g
      split
      · rename_i g2
        refine ⟨by show 128 ≤ _; omega, by show 1 ≤ 3; omega, by show i + 3 ≤ s.size; omega, fun j hj => ?_⟩
        match j, hj with
        | 0, _ => exact k0
        | 1, _ => exact k1 g.2.1.2 g.2.1.1
        | 2, _ => exact k2 g.2.2.2 g.2.2.1
      · exact ⟨by show 128 ≤ 65533; omega, Nat.le_refl 1, by show i + 1 ≤ s.size; omega, one⟩
    · split
      · rename_i g
        split
        · rename_i g2
          refine ⟨by show 128 ≤ _; omega, by show 1 ≤ 4; omega, by show i + 4 ≤ s.size; omega, fun j hj => ?_⟩
          match j, hj with
          | 0, _ => exact k0
          | 1, _ => exact k1 g.2.1.2 g.2.1.1
          | 2, _ => exact k2 g.2.2.1.2 g.2.2.1.1
          | 3, _ => exact k3 g.2.2.2.2 g.2.2.2.1
        · exact ⟨by show 128 ≤ 65533; omega, Nat.le_refl 1, by show i + 1 ≤ s.size; omega, one⟩
      · exact ⟨by show 128 ≤ 65533; omega, Nat.le_refl 1, by show i + 1 ≤ s.size; omega, one⟩
theorem decode_low (s : ByteArray) (i : Nat) (h : i < s.size) (hc : s[i].toNat < 128) : Utf8.decode s i = (s[i].toNat, 1) := by
  rw [Lib.decode_at, get_lt h]
  unfold Lib.decodeN
  rw [if_pos hc]
theorem blk_low (c : UInt8) : pblk c.toNat = blk c := by
  unfold pblk blk
  rw [Bool.eq_iff_iff]
  simp only [Bool.or_eq_true, beq_iff_eq]
  constructor
  · rintro (h | h)
    · exact .inl (UInt8.toNat_inj.1 h)
    · exact .inr (UInt8.toNat_inj.1 h)
  · rintro (h | h)
    · exact .inl (by rw [h]; rfl)
    · exact .inr (by rw [h]; rfl)
theorem blk_high {c : UInt8} (h : 128 ≤ c.toNat) : blk c = false := by
  rw [← blk_low]
  unfold pblk
  simp
  omega
def piece (l : List UInt8) (x : Nat × Nat) : List UInt8 := (l.drop x.1).take (x.2 - x.1)
def openP (l : List UInt8) (st : Option Nat) (pos : Nat) : List UInt8 := match st with | some a => piece l (a, pos) | none => []
theorem piece_more (l : List UInt8) (a pos k : Nat) (h : a ≤ pos) : piece l (a, pos) ++ (l.drop pos).take k = piece l (a, pos + k) := Lib.pieceU_grow l a pos k h
theorem piece_ne (l : List UInt8) (a pos : Nat) (h : a < pos) (hp : pos ≤ l.length) : piece l (a, pos) ≠ [] := Lib.pieceU_ne l a pos h hp
theorem at_drop {s : ByteArray} {i : Nat} (h : i < s.size) : s.data.toList.drop i = s[i] :: s.data.toList.drop (i + 1) := by
  have hl : i < s.data.toList.length := by rw [← Lib.size_eq]; exact h
  rw [List.drop_eq_getElem_cons hl]
  rfl
theorem spans_words (s : ByteArray) : ∀ (f pos : Nat) (st : Option Nat) (acc : List (Nat × Nat)), s.size ≤ pos + f → pos ≤ s.size → (∀ a, st = some a → a < pos) →
    acc.map (piece s.data.toList) ++ wgo (openP s.data.toList st pos) (s.data.toList.drop pos) = (Lib.closeSpans s (Lib.spansFromP pblk s f pos st acc)).map (piece s.data.toList) := by
  intro f
  have hend : ∀ (st : Option Nat) (acc : List (Nat × Nat)), (∀ a, st = some a → a < s.size) → acc.map (piece s.data.toList) ++ wgo (openP s.data.toList st s.size) (s.data.toList.drop s.size) = (Lib.closeSpans s (acc, st)).map (piece s.data.toList) := by
    intro st acc hst
    have hd : s.data.toList.drop s.size = [] := List.drop_eq_nil_of_le (by rw [← Lib.size_eq]; exact Nat.le_refl _)
    rw [hd, wgo_nil]
    cases st with
    | none => simp [Lib.closeSpans, openP]
    | some a =>
      have := piece_ne s.data.toList a s.size (hst a rfl) (by rw [← Lib.size_eq]; exact Nat.le_refl _)
      simp [Lib.closeSpans, openP, this]
  induction f with
  | zero =>
    intro pos st acc h hp hst
    obtain rfl : pos = s.size := by omega
    exact hend st acc hst
  | succ f ih =>
    intro pos st acc h hp hst
    by_cases hlt : pos < s.size
    · unfold Lib.spansFromP
      rw [if_pos hlt]
      rcases Nat.lt_or_ge s[pos].toNat 128 with hc | hc
      · rw [decode_low s pos hlt hc]
        simp only
        rw [blk_low, at_drop hlt, wgo_cons]
        cases hb : blk s[pos]
        · rw [if_neg (by decide), if_neg (by decide)]
          have ht : (s.data.toList.drop pos).take 1 = [s[pos]] := by rw [at_drop hlt]; rfl
          cases st with
          | none =>
            have := ih (pos + 1) (some pos) acc (by omega) (by omega) (fun a ha => by injection ha; omega)
            rw [← this]
            have e : openP s.data.toList (some pos) (pos + 1) = openP s.data.toList none pos ++ [s[pos]] := by
              show piece _ (pos, pos + 1) = [] ++ _
              rw [List.nil_append, ← ht]
              unfold piece
              show (s.data.toList.drop pos).take (pos + 1 - pos) = _
              rw [Nat.add_sub_cancel_left]
            rw [e]
          | some a =>
            have := ih (pos + 1) (some a) acc (by omega) (by omega) (fun b hb => by injection hb with hb; subst hb; have := hst _ rfl; omega)
            rw [← this]
            have e : openP s.data.toList (some a) (pos + 1) = openP s.data.toList (some a) pos ++ [s[pos]] := by
              show piece _ (a, pos + 1) = piece _ (a, pos) ++ _
              rw [← ht, piece_more _ _ _ _ (by have := hst a rfl; omega)]
            rw [e]
        · rw [if_pos rfl, if_pos rfl]
          cases st with
          | none =>
            have := ih (pos + 1) none acc (by omega) (by omega) (fun a ha => by cases ha)
            rw [← this]
            rfl
          | some a =>
            have hne := piece_ne s.data.toList a pos (hst a rfl) (by rw [← Lib.size_eq]; exact hp)
            have := ih (pos + 1) none (acc ++ [(a, pos)]) (by omega) (by omega) (fun a ha => by cases ha)
            rw [← this]
            show _ ++ (if piece _ (a, pos) = [] then _ else _) = _
            rw [if_neg hne]
            simp [openP]
      · obtain ⟨d1, d2, d3, d4⟩ := decode_bytes s pos hlt hc
        generalize Utf8.decode s pos = x at *
        obtain ⟨r, k⟩ := x
        simp only at *
        have hpb : pblk r = false := by unfold pblk; simp; omega
        rw [hpb, if_neg (by decide)]
        have hsplit : s.data.toList.drop pos = (s.data.toList.drop pos).take k ++ s.data.toList.drop (pos + k) := by
          rw [← List.drop_drop, List.take_append_drop]
        have hnb : ∀ c ∈ (s.data.toList.drop pos).take k, blk c = false := by
          intro c hcm
          obtain ⟨j, hj, e⟩ := List.mem_iff_getElem.1 hcm
          have hjk : j < k := by rw [List.length_take] at hj; omega
          obtain ⟨hlt2, hge⟩ := d4 j hjk
          rw [List.getElem_take, List.getElem_drop] at e
          have : c = s[pos + j] := e.symm
          rw [this]
          exact blk_high hge
        rw [hsplit, wgo_word hnb]
        cases st with
        | none =>
          have := ih (pos + k) (some pos) acc (by omega) (by omega) (fun a ha => by injection ha; omega)
          simp only
          rw [← this]
          have e : openP s.data.toList (some pos) (pos + k) = openP s.data.toList none pos ++ (s.data.toList.drop pos).take k := by
            show piece _ (pos, pos + k) = [] ++ _
            rw [List.nil_append]
            unfold piece
            show (s.data.toList.drop pos).take (pos + k - pos) = _
            rw [Nat.add_sub_cancel_left]
          rw [e]
        | some a =>
          have := ih (pos + k) (some a) acc (by omega) (by omega) (fun b hb => by injection hb with hb; subst hb; have := hst _ rfl; omega)
          simp only
          rw [← this]
          have e : openP s.data.toList (some a) (pos + k) = openP s.data.toList (some a) pos ++ (s.data.toList.drop pos).take k := by
            show piece _ (a, pos + k) = piece _ (a, pos) ++ _
            rw [piece_more _ _ _ _ (by have := hst a rfl; omega)]
          rw [e]
    · obtain rfl : pos = s.size := by omega
      rw [Lib.spansFromP_end _ _ _ _ _ _ hlt]
      exact hend st acc hst
theorem fields_words (s : ByteArray) : (Lib.goFieldsP pblk s).map (fun x => x.data.toList) = wordsL s.data.toList := by
  have h := spans_words s s.size 0 none [] (by omega) (Nat.zero_le _) (fun a ha => by cases ha)
  unfold Lib.goFieldsP Lib.spansOfP
  rw [List.map_map]
  have e : (fun x : ByteArray => x.data.toList) ∘ (fun x : Nat × Nat => s.extract x.1 x.2) = piece s.data.toList := by
    funext x
    show (s.extract x.1 x.2).data.toList = _
    unfold piece
    rw [Lib.extract_data]
  rw [e, ← h]
  rfl
end Go.Proofs.YtoiolepengcagaaGreatDoor
