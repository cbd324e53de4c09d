/-
  Words, plain models, laws and walks that the claims of this layer share (joined by shake.py). No condition.
-/
import Derived.WalkKit
import Derived.WalkSpells
import Derived.WalkLawsBesides
import Derived.ProofKit
import Derived.OpenShut
import Derived.ChangeOld
import Derived.Below
import Derived.Carry
import Derived.Deep.Slices
import Derived.Maps.AppendAt
import Derived.Deep.AppendLies
import Derived.RegionTactic
import Derived.OwnWalk
import Derived.Lib.Hide
import Derived.Laws.CopyOwn
import Derived.Laws.BytesArg
import Derived.Lib.IndexMore
import Derived.Laws.IdiomStrings
import Derived.Test.YtdfojghhpdkpfaaGreatDoorRows
import Derived.Outline
import Derived.Deep.QuietTactic
import Derived.BigQuiet
import Derived.Shelf.Strings.Builder1
import Derived.Shelf.Strings.Builder2
import Derived.Shelf.Strings.OnBuilder
import Derived.Shelf.Strings.BuilderF
import Derived.Shelf.Strings.BuilderK
import Derived.Shelf.Utf8.RuneCount
import Derived.Shelf.Strings.Builder2Cap
import Derived.Shelf.Strconv.Itoa0
import Derived.Shelf.Strconv.Itoa1
import Derived.Shelf.LaysM
import Derived.Shelf.Strconv.Itoa2
import Derived.Shelf.Strconv.Itoa3
import Derived.Shelf.Strconv.Itoa4
import Derived.Shelf.Strings.Search1
import Derived.Shelf.Strings.Search2
import Derived.Shelf.Strings.Search3
import Derived.Shelf.Strings.Count
import Derived.Shelf.Strings.Shaped
import Derived.Shelf.Strings.Split
import Derived.Shelf.Strings.Replace
import Derived.Shelf.Strings.SplitShaped
import Derived.Shelf.Unicode.Decode
import Derived.Shelf.Strings.RuneCount
import Derived.Shelf.Unicode.DecodeSlow
import Derived.Shelf.Unicode.DecodeAny
import Derived.Shelf.Strings.BuilderCap
import Derived.Test.YtdfojghhpdkpfaaGreatDoorProg
import Derived.Orders
import Derived.StillTail
import Derived.Laws.StructEq
import Derived.Deep.CutRange
import Derived.Lib.AppendIntMem
import Derived.Deep.CutBlock
import Derived.Recover
import Derived.HandedShaped
import Derived.ChangeMaps5
import Derived.Lay
import Derived.Lib.LaidU8
import Derived.Lib.LaidTab
import Derived.StillTailTactics
import Derived.Lib.MinMax
import Derived.Test.YtdfojghhpdkpfaaGreatDoorA9
import Derived.Test.YtdfojghhpdkpfaaGreatDoorA8
import Derived.Test.YtdfojghhpdkpfaaGreatDoorA7
import Derived.Test.YtdfojghhpdkpfaaGreatDoorA6
import Derived.Test.YtdfojghhpdkpfaaGreatDoorA5
import Derived.Test.YtdfojghhpdkpfaaGreatDoorA4
import Derived.Test.YtdfojghhpdkpfaaGreatDoorA3
import Derived.Test.YtdfojghhpdkpfaaGreatDoorA2
import Derived.Test.YtdfojghhpdkpfaaGreatDoorA12
import Derived.Test.YtdfojghhpdkpfaaGreatDoorA11
import Derived.Test.YtdfojghhpdkpfaaGreatDoorA10
import Derived.Test.YtdfojghhpdkpfaaGreatDoorA1
set_option linter.unusedSimpArgs false
set_option linter.unusedVariables false
namespace Go.Proofs.YtdfojghhpdkpfaaGreatDoor
open Go.RowKit Go.ChangeShapes Go.WideShapes Go.ChangeAt
section
variable {S S' : Nat → Prop} {w w' w'' : World}
end
section
variable {S S' : Nat → Prop} {w w' : World} {size n : Nat} {A : Option Addr} {xs : List Value}
end
section
variable {S S' : Nat → Prop} {w w' : World} {v : Value} {bs : List UInt8}
end
section
variable {S S' : Nat → Prop} {w w' : World} {v : Value} {l : List (List UInt8)}
end
section
variable {S : Nat → Prop} {w w' : World} {g : Nat} {e : TypeId} {xs : List Value}
theorem Row.owns (h : Row w g e xs) {base size n cap : Nat} (hb : base ≤ g) (hc : xs.length = cap * size) (hn : n ≤ cap) (hm : cap ≤ maxLen) :
    w.ownsRow base e size (.slice (some ⟨g, 0, none⟩) n cap) n (xs.take (n * size)) :=
  ⟨by rw [List.length_take, hc, Nat.min_eq_left (Nat.mul_le_mul_right _ hn)], .inr ⟨g, cap, xs.toArray, rfl, hb, h, hn, hm, by simpa using hc, rfl⟩⟩
end
section
variable {P : Program} {t e : TypeId} {size bytes : Nat} {z : Value}
end
theorem str_get (s : ByteArray) : s = str s.data.toList := by simp [str]
section
variable {H : Type} {enc : TypeId × Value → H} {P : Program} {W : World}
end
end Go.Proofs.YtdfojghhpdkpfaaGreatDoor
namespace Go.Proofs.YtdfojghhpdkpfaaGreatDoor
theorem takeWhile_stop {p : UInt8 → Bool} {x : UInt8} (hp : p x = false) (b : List UInt8) : ∀ a : List UInt8, (a ++ x :: b).takeWhile p = a.takeWhile p
  | [] => by simp [List.takeWhile_cons, hp]
  | c :: a => by
    simp only [List.cons_append, List.takeWhile_cons]
    rw [takeWhile_stop hp b a]
theorem dropWhile_stop {p : UInt8 → Bool} {x : UInt8} (hp : p x = false) (b : List UInt8) : ∀ a : List UInt8, (a ++ x :: b).dropWhile p = a.dropWhile p ++ x :: b
  | [] => by simp [List.dropWhile_cons, hp]
  | c :: a => by
    simp only [List.cons_append, List.dropWhile_cons]
    split
    · exact dropWhile_stop hp b a
    · rfl
theorem tokF_blank {x : UInt8} (hx : isBlank x = true) (b : List UInt8) : tokF (x :: b) = ⟨⟨0, [], 0⟩, 1, 0⟩ := by simp [tokF, hx]
/-- A text's tokens do not hang on where it lies. -/
theorem lexFrom_at : ∀ (k : Nat) (s : List UInt8) (i : Nat), s.length ≤ k → lexFrom i s = ((lexFrom 0 s).1, (lexFrom 0 s).2.map fun x => (x.1 + i, x.2)) := by
  intro k
  induction k with
  | zero =>
    intro s i hl
    have : s = [] := List.eq_nil_of_length_eq_zero (by omega)
    subst this
    rw [lexFrom_nil, lexFrom_nil]; rfl
  | succ k ih =>
    intro s i hl
    by_cases hs : s = []
    · subst hs
      rw [lexFrom_nil, lexFrom_nil]; rfl
    · by_cases he : (tokF s).e = 0
      · have hp := tokF_pos he
        rw [lexFrom_go hs he, lexFrom_go (i := 0) hs he]
        rw [ih (s.drop (tokF s).n) (i + (tokF s).n) (by simp; omega), ih (s.drop (tokF s).n) (0 + (tokF s).n) (by simp; omega)]
        dsimp only
        split
        · rename_i h1
          simp only [h1, List.map_append, List.map_map, Function.comp_def, if_true]
          congr 1
          split
          · simp only [List.nil_append, List.map_nil]
            exact List.map_congr_left fun x _ => by rw [show x.1 + (i + (tokF s).n) = x.1 + (0 + (tokF s).n) + i from by omega]
          · simp only [List.map_cons, List.map_nil, Nat.zero_add]
            congr 1
            exact List.map_congr_left fun x _ => by rw [show x.1 + (i + (tokF s).n) = x.1 + (tokF s).n + i from by omega]
        · rename_i h1
          simp [h1]
      · rw [lexFrom_err hs he, lexFrom_err hs he]; rfl
theorem numGo_app : ∀ (a b : List UInt8) (v : Nat), numGo v (a ++ b) = (numGo v a).bind fun x => numGo x b
  | [], b, v => rfl
  | c :: a, b, v => by
    simp only [List.cons_append, numGo]
    split
    · rfl
    · exact numGo_app a b _
theorem dig_nat (d : Nat) (h : d < 10) : (UInt8.ofNat (48 + d)).toNat - 48 = d := by
  rw [UInt8.toNat_ofNat']; omega
theorem dig_is (d : Nat) (h : d < 10) : isDig (UInt8.ofNat (48 + d)) = true := by
  have : ∀ d : Fin 10, isDig (UInt8.ofNat (48 + d.val)) = true := by decide
  exact this ⟨d, h⟩
theorem digL_num : ∀ (k n : Nat), n ≤ k → n ≤ maxI → numGo 0 (digL n) = some n := by
  intro k
  induction k with
  | zero =>
    intro n hk hn
    have : n = 0 := by omega
    subst this
    unfold digL
    rfl
  | succ k ih =>
    intro n hk hn
    unfold digL
    split
    · rename_i h
      simp only [numGo, dig_nat n h]
      rw [if_neg (by omega)]
      simp
    · rename_i h
      rw [numGo_app, ih (n / 10) (by omega) (by omega)]
      simp only [Option.bind_some, numGo, dig_nat (n % 10) (by omega)]
      rw [if_neg (by omega)]
      congr 1
      omega
theorem digL_all : ∀ (k n : Nat), n ≤ k → (digL n).all isDig = true := by
  intro k
  induction k with
  | zero =>
    intro n hk
    have : n = 0 := by omega
    subst this
    unfold digL
    rfl
  | succ k ih =>
    intro n hk
    unfold digL
    split
    · rename_i h
      simp only [List.all_cons, List.all_nil, dig_is n h, Bool.and_self]
    · rename_i h
      rw [List.all_append, ih (n / 10) (by omega)]
      simp only [List.all_cons, List.all_nil, dig_is (n % 10) (by omega), Bool.and_self]
theorem digL_ne (n : Nat) : digL n ≠ [] := by
  unfold digL
  split <;> simp
theorem takeWhile_id {p : UInt8 → Bool} : ∀ {a : List UInt8}, a.all p = true → a.takeWhile p = a ∧ a.dropWhile p = []
  | [], _ => ⟨rfl, rfl⟩
  | c :: a, h => by
    simp only [List.all_cons, Bool.and_eq_true] at h
    obtain ⟨h1, h2⟩ := takeWhile_id h.2
    simp [List.takeWhile_cons, List.dropWhile_cons, h.1, h1, h2]
theorem takeWhile_all {p : UInt8 → Bool} {x : UInt8} (hp : p x = false) (b : List UInt8) {a : List UInt8} (ha : a.all p = true) : (a ++ x :: b).takeWhile p = a := by
  rw [takeWhile_stop hp]
  exact (takeWhile_id ha).1
theorem dropWhile_all {p : UInt8 → Bool} {x : UInt8} (hp : p x = false) (b : List UInt8) {a : List UInt8} (ha : a.all p = true) : (a ++ x :: b).dropWhile p = x :: b := by
  rw [dropWhile_stop hp]
  rw [(takeWhile_id ha).2]; rfl
theorem dig_word {c : UInt8} (h : isDig c = true) : isLet c = false ∧ isBlank c = false := by
  have key := u8_all (p := fun c => !isDig c || (!isLet c && !isBlank c)) (by decide +kernel) c
  simp [h] at key
  exact key
end Go.Proofs.YtdfojghhpdkpfaaGreatDoor
namespace Go.Proofs.YtdfojghhpdkpfaaGreatDoor
open Go.RowKit
mutual
def Ex.deep : Ex → Nat
  | .mk _ _ _ l => deepL l + 1
def deepL : List Ex → Nat
  | [] => 0
  | a :: l => max a.deep (deepL l)
end
section
variable {w w' : World} {S S' : Nat → Prop} {u : Value} {e : Ex} {l : List Ex}
end
section
variable {P : Program} {t e : TypeId} {size bytes : Nat} {z : Value}
end
/-- The empty row that '[]byte{}' lays. -/
theorem OwnB.fresh {w : World} {B : Nat} (hB : B ≤ w.heap.size) : OwnB (w.alloc (.cells #[] 5)) B (.slice (some ⟨w.heap.size, 0, none⟩) 0 0) [] :=
  (Row.new w 5 []).owns (base := B) (size := 1) (n := 0) (cap := 0) hB (by simp) (Nat.le_refl _) (by simp [maxLen])
def opTok (s : List UInt8) : Tok := if s = wOR ∨ s = wAND then tW s else tS s
def tokV (v : Val) : Tok := if v.kind = 1 then tW (if v.n = 1 then wTRUE else wFALSE) else if v.kind = 2 then ⟨2, [], v.n.toNat⟩ else if v.kind = 3 then ⟨3, v.s, 0⟩ else tW wNULL
def toksOp (k : Int) (s : List UInt8) (v : Val) (ts : List (List Tok)) : List Tok :=
  if k = 1 then [tokV v] else if k = 2 then [tW s] else
  match ts with
  | a :: r => if s = wISNULL then tS [40] :: (a ++ [tW wIS, tW wNULL]) ++ [tS [41]] else if s = wNOTNULL then tS [40] :: (a ++ [tW wIS, tW wNOT, tW wNULL]) ++ [tS [41]]
    else if s = wNOT then tS [40] :: (tW wNOT :: a) ++ [tS [41]] else if s = wNEG then tS [40] :: (tS [45] :: a) ++ [tS [41]]
    else match r with
      | b :: _ => tS [40] :: (a ++ opTok s :: b) ++ [tS [41]]
      | [] => []
  | [] => []
mutual
def toksE : Ex → List Tok
  | .mk k s v l => toksOp k s v (toksEs l)
def toksEs : List Ex → List (List Tok)
  | [] => []
  | a :: l => toksE a :: toksEs l
end
theorem rule_unary (n : Nat) (l : List PT) : ruleT (n + 1) .unary l =
    if isT [45] l then thenT (ruleT n .unary l.tail) fun d l1 => opT (hdT l).1 wNEG [d] l1
    else if isT [40] l then thenT (ruleT n .or l.tail) fun d l1 => thenT (mustT [[41]] l1) fun _ l2 => .ok (d, l2)
    else if (hdT l).2.kind = 2 then .ok (leafV ⟨2, (hdT l).2.n, []⟩, l.tail)
    else if (hdT l).2.kind = 3 then .ok (leafV ⟨3, 0, (hdT l).2.s⟩, l.tail)
    else if isT wTRUE l then .ok (leafV ⟨1, 1, []⟩, l.tail)
    else if isT wFALSE l then .ok (leafV ⟨1, 0, []⟩, l.tail)
    else if isT wNULL l then .ok (leafV ⟨0, 0, []⟩, l.tail)
    else thenT (nameT l) fun s l1 => .ok (⟨.mk 2 s .zero [], 1⟩, l1) := rfl
section
variable {k : Nat} {ts ta tb : List Tok} {d da db : Dp}
theorem Rd.paren (h : Rd k .or ts d) : Rd (k + 1) .unary (tS [40] :: ts ++ [tS [41]]) d := by
  intro n hn T R hT _
  obtain ⟨n, rfl⟩ : ∃ m, n = m + 1 := ⟨n - 1, by omega⟩
  obtain ⟨A, B, rfl, hA, hB⟩ := map_app (a := tS [40] :: ts) hT
  obtain ⟨p, A1, rfl, hA1⟩ := map_cons hA
  obtain ⟨q, B1, rfl, hB1⟩ := map_cons hB
  obtain rfl := map_nil hB1
  have h1 := h n (by omega) A1 ((q, tS [41]) :: R) hA1 (show aft .or (tS [41]) = true from by decide)
  have e : (p, tS [40]) :: A1 ++ [(q, tS [41])] ++ R = (p, tS [40]) :: (A1 ++ (q, tS [41]) :: R) := by simp
  have k1 : isK [45] (tS [40]) = false := by decide
  have k2 : isK [40] (tS [40]) = true := by decide
  have k3 : isK [41] (tS [41]) = true := by decide
  rw [e, rule_unary]
  simp only [isT_K, hdT_cons, List.tail_cons, k1, k2, Bool.false_eq_true, if_false, if_true, h1, thenT_ok, mustT, k3]
theorem chain_two {f : List PT → PR Dp} {signs : List (List UInt8)} {A B R : List PT} {p : Nat} {t : Tok} (h1 : f (A ++ (p, t) :: (B ++ R)) = .ok (da, (p, t) :: (B ++ R))) (h2 : f (B ++ R) = .ok (db, R)) (ht : beginsK signs t = true)
    (hR : beginsK signs (hdT R).2 = false) (hd : deepOf [da, db] ≤ 15) : runT f signs (A ++ (p, t) :: (B ++ R)) = .ok (opD t.s [da, db], R) := by
  unfold runT
  rw [h1, thenT_ok, List.length_cons]
  unfold chainT
  rw [begins_K, hdT_cons, if_pos ht, List.tail_cons, h2, thenT_ok, opT_ok hd, thenT_ok]
  exact chain_stop hR _ _
theorem opTok_s (s : List UInt8) : (opTok s).s = s := by unfold opTok; split <;> rfl
theorem Rd.bin {r q : Rl} {signs : List (List UInt8)} (hr : ∀ n l, ruleT (n + 1) r l = runT (ruleT n q) signs l) {t : Tok} (ht : beginsK signs t = true) (hq : aft q t = true) (hR : ∀ x, aft r x = true → aft q x = true ∧ beginsK signs x = false)
    (ha : Rd k q ta da) (hb : Rd k q tb db) (hd : deepOf [da, db] ≤ 15) : Rd (k + 1) r (ta ++ t :: tb) (opD t.s [da, db]) := by
  intro n hn T R hT hR'
  obtain ⟨n, rfl⟩ : ∃ m, n = m + 1 := ⟨n - 1, by omega⟩
  obtain ⟨A, B, rfl, hA, hB⟩ := map_app hT
  obtain ⟨p, B, rfl, hB1x⟩ := map_cons hB
  obtain ⟨h1, h2⟩ := hR _ hR'
  rw [hr, List.append_assoc, List.cons_append]
  exact chain_two (ha n (by omega) A _ hA (by rw [hdT_cons]; exact hq)) (hb n (by omega) B R hB1x h1) ht h2 hd
theorem kNC : beginsK cmpsT (tW wIS) = false := by decide
theorem kII : isK wIS (tW wIS) = true := by decide
theorem kNN : isK wNOT (tW wNULL) = false := by decide
theorem kUU : isK wNULL (tW wNULL) = true := by decide
theorem kOO : isK wNOT (tW wNOT) = true := by decide
theorem Rd.isnull (ha : Rd k .sum ta da) (hd : da.n ≤ 15) : Rd (k + 1) .cmp (ta ++ [tW wIS, tW wNULL]) (opD wISNULL [da]) := by
  intro n hn T R hT hR
  obtain ⟨n, rfl⟩ : ∃ m, n = m + 1 := ⟨n - 1, by omega⟩
  obtain ⟨A, B, rfl, hA, hB⟩ := map_app hT
  obtain ⟨p, B1, rfl, hB1⟩ := map_cons hB
  obtain ⟨q, B2, rfl, hB2⟩ := map_cons hB1
  obtain rfl := map_nil hB2
  have h0 := ha n (by omega) A ((p, tW wIS) :: (q, tW wNULL) :: R) hA (show aft .sum (tW wIS) = true from by decide)
  have e : A ++ [(p, tW wIS), (q, tW wNULL)] ++ R = A ++ (p, tW wIS) :: (q, tW wNULL) :: R := by simp
  rw [e, rule_cmp, h0, thenT_ok]
  simp only [begins_K, isT_K, hdT_cons, List.tail_cons, mustT, kNC, kII, kNN, kUU, Bool.false_eq_true, if_false, if_true, thenT_ok]
  exact opT_ok (by simp [deepOf, hd])
theorem Rd.notnull (ha : Rd k .sum ta da) (hd : da.n ≤ 15) : Rd (k + 1) .cmp (ta ++ [tW wIS, tW wNOT, tW wNULL]) (opD wNOTNULL [da]) := by
  intro n hn T R hT hR
  obtain ⟨n, rfl⟩ : ∃ m, n = m + 1 := ⟨n - 1, by omega⟩
  obtain ⟨A, B, rfl, hA, hB⟩ := map_app hT
  obtain ⟨p, B1, rfl, hB1⟩ := map_cons hB
  obtain ⟨q, B2, rfl, hB2⟩ := map_cons hB1
  obtain ⟨o, B3, rfl, hB3⟩ := map_cons hB2
  obtain rfl := map_nil hB3
  have h0 := ha n (by omega) A ((p, tW wIS) :: (q, tW wNOT) :: (o, tW wNULL) :: R) hA (show aft .sum (tW wIS) = true from by decide)
  have e : A ++ [(p, tW wIS), (q, tW wNOT), (o, tW wNULL)] ++ R = A ++ (p, tW wIS) :: (q, tW wNOT) :: (o, tW wNULL) :: R := by simp
  rw [e, rule_cmp, h0, thenT_ok]
  simp only [begins_K, isT_K, hdT_cons, List.tail_cons, mustT, kNC, kII, kOO, kUU, Bool.false_eq_true, if_false, if_true, thenT_ok]
  exact opT_ok (by simp [deepOf, hd])
theorem Rd.nots (ha : Rd k .not ta da) (hd : da.n ≤ 15) : Rd (k + 1) .not (tW wNOT :: ta) (opD wNOT [da]) := by
  intro n hn T R hT hR
  obtain ⟨n, rfl⟩ : ∃ m, n = m + 1 := ⟨n - 1, by omega⟩
  obtain ⟨p, A, rfl, hA1⟩ := map_cons hT
  rw [rule_not, List.cons_append, List.tail_cons, isT_K, hdT_cons, show isK wNOT (tW wNOT) = true from by decide, ha n (by omega) A R hA1 hR]
  simp only [if_true, thenT_ok]
  exact opT_ok (by simp [deepOf, hd])
theorem Rd.neg (ha : Rd k .unary ta da) (hd : da.n ≤ 15) : Rd (k + 1) .unary (tS [45] :: ta) (opD wNEG [da]) := by
  intro n hn T R hT hR
  obtain ⟨n, rfl⟩ : ∃ m, n = m + 1 := ⟨n - 1, by omega⟩
  obtain ⟨p, A, rfl, hA1⟩ := map_cons hT
  rw [rule_unary, List.cons_append, List.tail_cons, isT_K, hdT_cons, show isK [45] (tS [45]) = true from by decide, ha n (by omega) A R hA1 hR]
  simp only [if_true, thenT_ok]
  exact opT_ok (by simp [deepOf, hd])
theorem Rd.up (h : Rd k .unary ts d) (hN : NotNot ts) : Rd (k + 6) .or ts d := ((((h.prod.sum).cmp).not hN).and).or
end
theorem word_not {s t : List UInt8} (h : wordF s = true) (ht : wordF t = false) : ¬ s = t := by
  rintro rfl
  rw [h] at ht
  cases ht
theorem leaf_read {v : Val} (h : mayV v = true) (h0 : 0 ≤ v.n) : Rd 1 .unary [tokV v] (leafV v) := by
  intro n hn T R hT _
  obtain ⟨n, rfl⟩ : ∃ m, n = m + 1 := ⟨n - 1, by omega⟩
  obtain ⟨p, B, rfl, hB⟩ := map_cons hT
  obtain rfl := map_nil hB
  rw [rule_unary, List.cons_append, List.nil_append]
  obtain ⟨k, m, s⟩ := v
  rcases (mayV_iff _).1 h with ⟨h1, h2, h3⟩ | ⟨h1, h2, h3⟩ | ⟨h1, h2⟩ | ⟨h1, h2, h3⟩
  · dsimp only at h1 h2 h3; subst h1 h2 h3
    rfl
  · dsimp only at h1 h2 h3; subst h1 h3
    rcases h2 with rfl | rfl <;> rfl
  · dsimp only at h1 h2 h0; subst h1 h2
    have e : (m.toNat : Int) = m := Int.toNat_of_nonneg h0
    show Except.ok (leafV ⟨2, (m.toNat : Int), []⟩, R) = _
    rw [e]
  · dsimp only at h1 h2 h3; subst h1 h2
    rfl
theorem name_read {s : List UInt8} (h : wordF s = true) : Rd 1 .unary [tW s] ⟨.mk 2 s .zero [], 1⟩ := by
  intro n hn T R hT _
  obtain ⟨n, rfl⟩ : ∃ m, n = m + 1 := ⟨n - 1, by omega⟩
  obtain ⟨p, B, rfl, hB⟩ := map_cons hT
  obtain rfl := map_nil hB
  have k : ∀ t, wordF t = false → isT t ((p, tW s) :: R) = false := fun t ht => by
    rw [isT_K, hdT_cons]
    simp [isK, tW, word_not h ht]
  rw [rule_unary, List.cons_append, List.nil_append, k _ (by decide), k _ (by decide), k _ (by decide), k _ (by decide), k _ (by decide)]
  have e1 : (hdT ((p, tW s) :: R)).2 = tW s := rfl
  have e2 : namedT ((p, tW s) :: R) = true := by unfold namedT; rw [e1]; simp [tW, h]
  simp only [e1, Bool.false_eq_true, if_false]
  rw [if_neg (by simp [tW]), if_neg (by simp [tW])]
  unfold nameT
  rw [if_pos e2]
  rfl
theorem tokV_not (v : Val) : isK wNOT (tokV v) = false := by
  unfold tokV
  split
  · split <;> decide
  · split
    · simp [isK]
    · split
      · simp [isK]
      · decide
theorem toksOp_two {s : List UInt8} {v : Val} (h : argsN s = 2) (a b : List Tok) : toksOp 3 s v [a, b] = tS [40] :: (a ++ opTok s :: b) ++ [tS [41]] := by
  unfold toksOp
  rw [if_neg (by decide), if_neg (by decide)]
  simp only []
  rw [if_neg (args_ne h (by decide)), if_neg (args_ne h (by decide)), if_neg (args_ne h (by decide)), if_neg (args_ne h (by decide))]
theorem notNot_app {ts r : List Tok} (h : NotNot ts) : NotNot (ts ++ r) := by
  obtain ⟨t, r', e, h2⟩ := h
  exact ⟨t, r' ++ r, by rw [e]; rfl, h2⟩
theorem two_read {k : Nat} {ta tb : List Tok} {da db : Dp} {s : List UInt8} (hs : argsN s = 2) (ha : Rd k .unary ta da) (hb : Rd k .unary tb db) (hna : NotNot ta) (hnb : NotNot tb) (hd : deepOf [da, db] ≤ 15) :
    Rd (k + 7) .unary (tS [40] :: (ta ++ opTok s :: tb) ++ [tS [41]]) (opD s [da, db]) := by
  have hN : NotNot (ta ++ opTok s :: tb) := notNot_app hna
  suffices h : Rd (k + 6) .or (ta ++ opTok s :: tb) (opD (opTok s).s [da, db]) by rw [opTok_s] at h; exact h.paren
  have pr : ∀ t, beginsK [[42], [47], [37]] t = true → Rd (k + 1) .prod (ta ++ t :: tb) (opD t.s [da, db]) := fun t ht =>
    Rd.bin (fun n l => rfl) ht rfl (fun x hx => ⟨rfl, by simpa [aft] using hx⟩) ha hb hd
  have su : ∀ t, beginsK [[43], [45]] t = true → aft .prod t = true → Rd (k + 2) .sum (ta ++ t :: tb) (opD t.s [da, db]) := fun t ht hq =>
    Rd.bin (k := k + 1) (fun n l => rfl) ht hq (fun x hx => by simp only [aft, Bool.and_eq_true, Bool.not_eq_true'] at hx ⊢; exact hx) ha.prod hb.prod hd
  have cm : ∀ t, beginsK cmpsT t = true → aft .sum t = true → Rd (k + 3) .cmp (ta ++ t :: tb) (opD t.s [da, db]) := fun t ht hq =>
    Rd.rel (k := k + 2) ht hq ha.prod.sum hb.prod.sum hd
  have an : ∀ t, beginsK [wAND] t = true → aft .not t = true → Rd (k + 5) .and (ta ++ t :: tb) (opD t.s [da, db]) := fun t ht hq =>
    Rd.bin (k := k + 4) (fun n l => rfl) ht hq (fun x hx => by simp only [aft, Bool.and_eq_true, Bool.not_eq_true'] at hx ⊢; exact hx) (ha.prod.sum.cmp.not hna) (hb.prod.sum.cmp.not hnb) hd
  have orr : ∀ t, beginsK [wOR] t = true → aft .and t = true → Rd (k + 6) .or (ta ++ t :: tb) (opD t.s [da, db]) := fun t ht hq =>
    Rd.bin (k := k + 5) (fun n l => rfl) ht hq (fun x hx => by simp only [aft, Bool.and_eq_true, Bool.not_eq_true'] at hx ⊢; exact hx) (ha.prod.sum.cmp.not hna).and (hb.prod.sum.cmp.not hnb).and hd
  rcases args_two hs with rfl | rfl | rfl | rfl | rfl | rfl | rfl | rfl | rfl | rfl | rfl | rfl | rfl
  · exact orr _ (by decide) (by decide)
  · exact (an _ (by decide) (by decide)).or
  · exact (((cm _ (by decide) (by decide)).not hN).and).or
  · exact (((cm _ (by decide) (by decide)).not hN).and).or
  · exact (((cm _ (by decide) (by decide)).not hN).and).or
  · exact (((cm _ (by decide) (by decide)).not hN).and).or
  · exact (((cm _ (by decide) (by decide)).not hN).and).or
  · exact (((cm _ (by decide) (by decide)).not hN).and).or
  · exact (((su _ (by decide) (by decide)).cmp.not hN).and).or
  · exact (((su _ (by decide) (by decide)).cmp.not hN).and).or
  · exact (((pr _ (by decide)).sum.cmp.not hN).and).or
  · exact (((pr _ (by decide)).sum.cmp.not hN).and).or
  · exact (((pr _ (by decide)).sum.cmp.not hN).and).or
theorem notNot_paren (r : List Tok) : NotNot (tS [40] :: r) := ⟨_, _, rfl, by decide⟩
/-- An expression that may be is read as it was. -/
theorem expr_read : ∀ e : Ex, ∀ d, d ≤ 16 → mayE e d = true → Rd (8 * d) .unary (toksE e) ⟨e, e.deep⟩ ∧ NotNot (toksE e) ∧ e.deep ≤ d ∧ 1 ≤ d := by
  apply Ex.ind
  intro k s v l ih d hd h
  rw [mayE] at h
  by_cases h0 : d = 0
  · rw [if_pos h0] at h; cases h
  rw [if_neg h0] at h
  have hd1 : 1 ≤ d := by omega
  by_cases h1 : k = 1
  · subst h1
    simp only [if_true, Bool.and_eq_true, decide_eq_true_eq] at h
    obtain ⟨⟨⟨rfl, h2⟩, h3⟩, h4⟩ := h
    obtain rfl := List.eq_nil_of_length_eq_zero h2
    have e : toksE (.mk 1 [] v []) = [tokV v] := rfl
    rw [e]
    exact ⟨(leaf_read h3 h4).mono (by omega), ⟨_, _, rfl, tokV_not v⟩, by simp [Ex.deep, deepL]; omega, hd1⟩
  rw [if_neg h1] at h
  by_cases h2 : k = 2
  · subst h2
    simp only [if_true, Bool.and_eq_true, decide_eq_true_eq] at h
    obtain ⟨⟨rfl, h2⟩, h3⟩ := h
    obtain rfl := List.eq_nil_of_length_eq_zero h2
    have e : toksE (.mk 2 s .zero []) = [tW s] := rfl
    rw [e]
    exact ⟨(name_read h3).mono (by omega), ⟨_, _, rfl, by simp [isK, tW, word_not h3 (show wordF wNOT = false from by decide)]⟩, by simp [Ex.deep, deepL]; omega, hd1⟩
  rw [if_neg h2] at h
  simp only [Bool.and_eq_true, decide_eq_true_eq] at h
  obtain ⟨⟨⟨rfl, rfl⟩, h3⟩, h4⟩ := h
  have hm := mayEs_mem h4
  rcases args_range s with hs | hs | hs
  · obtain ⟨a, rfl⟩ : ∃ a, l = [a] := by
      match l, h3 with
      | [a], _ => exact ⟨a, rfl⟩
      | [], h3 => simp at h3; omega
      | a :: b :: r, h3 => simp at h3; omega
    obtain ⟨ra, na, da, pa⟩ := ih a (by simp) (d - 1) (by omega) (hm a (by simp))
    have hdp : (Ex.mk 3 s Val.zero [a]).deep = deepOf [⟨a, a.deep⟩] + 1 := by simp [Ex.deep, deepL, deepOf]
    have hde : (⟨.mk 3 s .zero [a], (Ex.mk 3 s Val.zero [a]).deep⟩ : Dp) = opD s [⟨a, a.deep⟩] := by rw [hdp]; rfl
    rw [hde]
    refine ⟨?_, ?_, by rw [hdp]; simp [deepOf]; omega, hd1⟩
    · rcases args_one hs with rfl | rfl | rfl | rfl
      · have h5 := ((ra.prod.sum.cmp.not na).nots (show a.deep ≤ 15 by omega)).and.or.paren
        exact h5.mono (by omega)
      · have h5 := (((ra.prod.sum.isnull (show a.deep ≤ 15 by omega)).not (notNot_app na)).and.or).paren
        exact h5.mono (by omega)
      · have h5 := (((ra.prod.sum.notnull (show a.deep ≤ 15 by omega)).not (notNot_app na)).and.or).paren
        exact h5.mono (by omega)
      · have h5 := ((ra.neg (show a.deep ≤ 15 by omega)).up ⟨_, _, rfl, by decide⟩).paren
        exact h5.mono (by omega)
    · rcases args_one hs with rfl | rfl | rfl | rfl <;> exact notNot_paren _
  · obtain ⟨a, b, rfl⟩ : ∃ a b, l = [a, b] := by
      match l, h3 with
      | [a, b], _ => exact ⟨a, b, rfl⟩
      | [], h3 => simp at h3; omega
      | [a], h3 => simp at h3; omega
      | a :: b :: c :: r, h3 => simp at h3; omega
    obtain ⟨ra, na, da, pa⟩ := ih a (by simp) (d - 1) (by omega) (hm a (by simp))
    obtain ⟨rb, nb, db, pb⟩ := ih b (by simp) (d - 1) (by omega) (hm b (by simp))
    have hdp : (Ex.mk 3 s Val.zero [a, b]).deep = deepOf [⟨a, a.deep⟩, ⟨b, b.deep⟩] + 1 := by simp [Ex.deep, deepL, deepOf]
    have hde : (⟨.mk 3 s .zero [a, b], (Ex.mk 3 s Val.zero [a, b]).deep⟩ : Dp) = opD s [⟨a, a.deep⟩, ⟨b, b.deep⟩] := by rw [hdp]; rfl
    have hte : toksE (.mk 3 s .zero [a, b]) = tS [40] :: (toksE a ++ opTok s :: toksE b) ++ [tS [41]] := toksOp_two hs _ _
    rw [hde, hte]
    refine ⟨?_, notNot_paren _, by rw [hdp]; simp [deepOf]; omega, hd1⟩
    exact (two_read hs ra rb na nb (by simp [deepOf]; omega)).mono (by omega)
  · rw [hs] at h3; omega
theorem must_one {s : List UInt8} {p : Nat} {t : Tok} {R : List PT} (h : isK s t = true) : mustT [s] ((p, t) :: R) = .ok ((), R) := by
  unfold mustT
  rw [isT_K, hdT_cons, if_pos h]
  rfl
theorem must_more {s : List UInt8} {ss : List (List UInt8)} {p : Nat} {t : Tok} {R : List PT} (h : isK s t = true) : mustT (s :: ss) ((p, t) :: R) = mustT ss R := by
  conv => lhs; unfold mustT
  rw [isT_K, hdT_cons, if_pos h]
  rfl
theorem name_go {s : List UInt8} (h : wordF s = true) (p : Nat) (R : List PT) : nameT ((p, tW s) :: R) = .ok (s, R) := by
  unfold nameT
  have e : (hdT ((p, tW s) :: R)).2 = tW s := rfl
  rw [if_pos (by unfold namedT; rw [e]; simp [tW, h])]
  rfl
theorem caseT_app : ∀ (a b : List UInt8) (f : Nat → Bool) (q : Bool), caseT f q (a ++ b) = ((caseT f q a).1 ++ (caseT (fun i => f (i + a.length)) (caseT f q a).2 b).1, (caseT (fun i => f (i + a.length)) (caseT f q a).2 b).2)
  | [], b, f, q => by simp [caseT]
  | c :: a, b, f, q => by
    have e : ∀ i, i + a.length + 1 = i + (a.length + 1) := fun i => by omega
    simp only [List.cons_append, caseT, caseT_app a b, List.length_cons, e]
    simp
theorem caseT_off : ∀ (a : List UInt8) (q : Bool), (caseT (fun _ => false) q a).1 = a
  | [], q => rfl
  | c :: a, q => by simp [caseT, caseT_off a]
theorem lx_nil : lx [] = some [] := by unfold lx; rw [lexFrom_nil]; rfl
theorem lx_tok {s : List UInt8} {t : Tok} {n : Nat} (hs : s ≠ []) (h : tokF s = ⟨t, n, 0⟩) : lx s = (lx (s.drop n)).map fun r => if t.kind = 0 then r else t :: r := by
  unfold lx
  have e := lexFrom_go (i := 0) hs (by rw [h])
  rw [h] at e
  dsimp only at e
  have e2 := lexFrom_at (s.drop n).length (s.drop n) (0 + n) (Nat.le_refl _)
  rw [e2] at e
  dsimp only at e
  by_cases h0 : (lexFrom 0 (s.drop n)).1 = 0
  · rw [if_pos h0] at e
    rw [e, if_pos rfl, if_pos h0]
    simp only [Option.map_some]
    by_cases hk : t.kind = 0
    · simp [hk, List.map_map, Function.comp_def]
    · simp [hk, List.map_map, Function.comp_def]
  · rw [if_neg h0] at e
    rw [e, if_neg h0, if_neg h0]
    rfl
/-- And whatever follows at all. -/
def Fx (s : List UInt8) (ts : List Tok) : Prop := ∀ f, (caseT f false s).2 = false ∧ ∀ c, lx ((caseT f false s).1 ++ c) = (lx c).map (ts ++ ·)
theorem map_app_app (x : Option (List Tok)) (a b : List Tok) : (x.map (b ++ ·)).map (a ++ ·) = x.map ((a ++ b) ++ ·) := by cases x <;> simp
section
variable {s s' : List UInt8} {ts ts' : List Tok}
theorem Fx.lx_ (h : Fx s ts) : Lx s ts := fun f => ⟨(h f).1, fun c _ => (h f).2 c⟩
theorem Fx.app (h : Fx s ts) (h' : Fx s' ts') : Fx (s ++ s') (ts ++ ts') := fun f => by
  obtain ⟨a1, a2⟩ := h f
  obtain ⟨b1, b2⟩ := h' fun i => f (i + s.length)
  rw [caseT_app, a1]
  exact ⟨b1, fun c => by rw [List.append_assoc, a2, b2, map_app_app]⟩
theorem Fx.lapp (h : Fx s ts) (h' : Lx s' ts') : Lx (s ++ s') (ts ++ ts') := fun f => by
  obtain ⟨a1, a2⟩ := h f
  obtain ⟨b1, b2⟩ := h' fun i => f (i + s.length)
  rw [caseT_app, a1]
  exact ⟨b1, fun c hc => by rw [List.append_assoc, a2, b2 c hc, map_app_app]⟩
theorem Lx.app (h : Lx s ts) (h' : Lx s' ts') (hb : Brk s') : Lx (s ++ s') (ts ++ ts') := fun f => by
  obtain ⟨a1, a2⟩ := h f
  obtain ⟨b1, b2⟩ := h' fun i => f (i + s.length)
  rw [caseT_app, a1]
  exact ⟨b1, fun c hc => by rw [List.append_assoc, a2 _ (hb.case _ c hc), b2 c hc, map_app_app]⟩
theorem Lx.fapp (h : Lx s ts) (h' : Fx s' ts') (hb : Brk s') (hne : s' ≠ []) : Fx (s ++ s') (ts ++ ts') := fun f => by
  obtain ⟨a1, a2⟩ := h f
  obtain ⟨b1, b2⟩ := h' fun i => f (i + s.length)
  rw [caseT_app, a1]
  refine ⟨b1, fun c => ?_⟩
  have hbk : Brk ((caseT (fun i => f (i + s.length)) false s').1 ++ c) := by
    rcases hb with h | ⟨x, t, rfl, hx⟩
    · exact absurd h hne
    · obtain ⟨t', e⟩ := caseT_head hx (fun i => f (i + s.length)) t
      exact .inr ⟨x, t' ++ c, by rw [e]; rfl, hx⟩
  rw [List.append_assoc, a2 _ hbk, b2, map_app_app]
end
/-- A sign of one byte that is no beginning of two. -/
theorem sign_fx (x : UInt8) (h : isSign x = true ∧ isBlank x = false ∧ isLet x = false ∧ isDig x = false ∧ x ≠ 39 ∧ x ≠ 60 ∧ x ≠ 62) : Fx [x] [tS [x]] := by
  obtain ⟨h1, h2, h3, h4, h5, h6, h7⟩ := h
  intro f
  have hl : ¬ (65 ≤ x ∧ x ≤ 90) := by
    rintro ⟨a, b⟩
    have : isLet x = true := by unfold isLet; simp [a, b]
    rw [h3] at this; cases this
  have h32 : x ≠ 32 := by rintro rfl; exact absurd h2 (by decide)
  have e : caseT f false [x] = ([x], false) := by
    simp only [caseT, if_neg h5]
    rw [if_neg (fun h => hl h.2), if_neg (fun h => h32 h.2)]
    rfl
  rw [e]
  refine ⟨rfl, fun c => ?_⟩
  have ht : tokF ([x] ++ c) = ⟨tS [x], 1, 0⟩ := by
    rw [List.cons_append, List.nil_append]
    simp only [tokF, h2, h3, h4, if_neg h5, Bool.false_eq_true, if_false]
    cases c with
    | nil => simp [signF, h1, tS]
    | cons y c =>
      have : isTwo x y = false := by simp [isTwo, h6, h7]
      simp [signF, h1, this, tS]
  rw [lx_tok (by simp) ht]
  simp [tS]
theorem fx40 : Fx [40] [tS [40]] := sign_fx 40 (by decide)
theorem fx41 : Fx [41] [tS [41]] := sign_fx 41 (by decide)
theorem fx42 : Fx [42] [tS [42]] := sign_fx 42 (by decide)
theorem fx43 : Fx [43] [tS [43]] := sign_fx 43 (by decide)
theorem fx45 : Fx [45] [tS [45]] := sign_fx 45 (by decide)
theorem fx47 : Fx [47] [tS [47]] := sign_fx 47 (by decide)
theorem fx37 : Fx [37] [tS [37]] := sign_fx 37 (by decide)
theorem fx61 : Fx [61] [tS [61]] := sign_fx 61 (by decide)
theorem lx_blank {x : UInt8} (h : isBlank x = true) (c : List UInt8) : lx (x :: c) = lx c := by
  rw [lx_tok (by simp) (tokF_blank h c)]
  cases h : lx c <;> simp [h]
theorem fx32 : Fx [32] [] := by
  intro f
  refine ⟨by simp [caseT], fun c => ?_⟩
  have e : lx ((caseT f false [32]).1 ++ c) = lx c := by
    simp only [caseT]
    cases h : f 0
    · simp; exact lx_blank (by decide) c
    · simp; rw [lx_blank (by decide), lx_blank (by decide), lx_blank (by decide)]
  rw [e, map_nil_app]
theorem brk_stop {c : List UInt8} (h : Brk c) : c = [] ∨ ∃ x r, c = x :: r ∧ isWordy x = false ∧ isLet x = false ∧ isDig x = false ∧ x ≠ 39 ∧ ∀ y, isTwo y x = false := by
  rcases h with h | ⟨x, r, h, hx⟩
  · exact .inl h
  · refine .inr ⟨x, r, h, ?_⟩
    rcases hx with rfl | rfl | rfl | rfl <;> exact ⟨by decide, by decide, by decide, by decide, fun y => by simp [isTwo]⟩
theorem two_fx (a b : UInt8) (h : isTwo a b = true) : Fx [a, b] [tS [a, b]] := by
  have hab : (a = 60 ∧ b = 62) ∨ (a = 60 ∧ b = 61) ∨ (a = 62 ∧ b = 61) := by simpa [isTwo, or_assoc] using h
  have key : ∀ f, caseT f false [a, b] = ([a, b], false) := fun f => by rcases hab with ⟨rfl, rfl⟩ | ⟨rfl, rfl⟩ | ⟨rfl, rfl⟩ <;> simp [caseT] <;> decide
  intro f
  rw [key f]
  refine ⟨rfl, fun c => ?_⟩
  have ht : tokF ([a, b] ++ c) = ⟨tS [a, b], 2, 0⟩ := by rcases hab with ⟨rfl, rfl⟩ | ⟨rfl, rfl⟩ | ⟨rfl, rfl⟩ <;> rfl
  rw [lx_tok (by simp) ht]
  simp [tS]
theorem one_lx (a : UInt8) (h : a = 60 ∨ a = 62) : Lx [a] [tS [a]] := by
  have key : ∀ f, caseT f false [a] = ([a], false) := fun f => by rcases h with rfl | rfl <;> simp [caseT] <;> decide
  intro f
  rw [key f]
  refine ⟨rfl, fun c hc => ?_⟩
  have ht : tokF ([a] ++ c) = ⟨tS [a], 1, 0⟩ := by
    rcases brk_stop hc with rfl | ⟨x, r, rfl, _, _, _, _, h2⟩
    · rcases h with rfl | rfl <;> rfl
    · have h2 := h2 a
      rcases h with rfl | rfl
      · simp [tokF, show isBlank 60 = false from by decide, show isLet 60 = false from by decide, show isDig 60 = false from by decide, signF, h2, show isSign 60 = true from by decide, tS]
      · simp [tokF, show isBlank 62 = false from by decide, show isLet 62 = false from by decide, show isDig 62 = false from by decide, signF, h2, show isSign 62 = true from by decide, tS]
  rw [lx_tok (by simp) ht]
  simp [tS]
def lowT (on : Bool) (c : UInt8) : UInt8 := if on = true ∧ 65 ≤ c ∧ c ≤ 90 then c + 32 else c
theorem low_all (on : Bool) (c : UInt8) (h : isWordy c = true ∧ upB c = c) : isWordy (lowT on c) = true ∧ upB (lowT on c) = c ∧ (isDig c = false → isLet (lowT on c) = true ∧ isBlank (lowT on c) = false) ∧ c ≠ 39 ∧ c ≠ 32 := by
  have key := u8_all (p := fun c => !(isWordy c && decide (upB c = c)) || ((isWordy (lowT on c) && decide (upB (lowT on c) = c)) && (isDig c || (isLet (lowT on c) && !isBlank (lowT on c))) && decide (c ≠ 39) && decide (c ≠ 32))) (by cases on <;> decide +kernel) c
  simp only [h.1, h.2, decide_true, Bool.true_and, Bool.not_true, Bool.false_or, Bool.and_eq_true, Bool.or_eq_true, decide_eq_true_eq, Bool.not_eq_true'] at key
  obtain ⟨⟨⟨⟨a, b⟩, c1⟩, d⟩, e⟩ := key
  refine ⟨a, b, fun hd => ?_, d, e⟩
  rcases c1 with c1 | c1
  · rw [hd] at c1; cases c1
  · exact c1
theorem wordy_case : ∀ (s : List UInt8) (f : Nat → Bool), (∀ c ∈ s, isWordy c = true ∧ upB c = c) → ∃ s', caseT f false s = (s', false) ∧ s'.length = s.length ∧ s'.all isWordy = true ∧ s'.map upB = s ∧ ∀ c r, s = c :: r → isDig c = false → ∃ c' r', s' = c' :: r' ∧ isLet c' = true ∧ isBlank c' = false
  | [], f, h => ⟨[], rfl, rfl, rfl, rfl, fun c r h => by cases h⟩
  | c :: s, f, h => by
    obtain ⟨s', h1, h2, h3, h4, -⟩ := wordy_case s (fun i => f (i + 1)) fun x hx => h x (by simp [hx])
    obtain ⟨a, b, d, e, g⟩ := low_all (f 0) c (h c (by simp))
    refine ⟨lowT (f 0) c :: s', ?_, by simp [h2], by simp [a, h3], by simp [b, h4], ?_⟩
    · simp only [caseT, if_neg e, h1]
      simp [g, lowT]
    · rintro c' r ⟨⟩ hd
      exact ⟨_, _, rfl, d hd⟩
theorem takeWhile_brk {p : UInt8 → Bool} {a c : List UInt8} (ha : a.all p = true) (hc : c = [] ∨ ∃ x r, c = x :: r ∧ p x = false) : (a ++ c).takeWhile p = a ∧ (a ++ c).dropWhile p = c := by
  rcases hc with rfl | ⟨x, r, rfl, hx⟩
  · rw [List.append_nil]; exact takeWhile_id ha
  · exact ⟨takeWhile_all hx r ha, dropWhile_all hx r ha⟩
theorem word_lx {s : List UInt8} (h : wordOk s = true) : Lx s [tW s] := by
  have hall : (∀ c ∈ s, isWordy c = true ∧ upB c = c) ∧ ∃ c r, s = c :: r ∧ isDig c = false := by
    simp only [wordOk, Bool.and_eq_true, decide_eq_true_eq] at h
    obtain ⟨⟨h1, h2⟩, h3⟩ := h
    rw [List.all_eq_true] at h2
    refine ⟨fun c hc => ⟨h2 c hc, ?_⟩, ?_⟩
    · obtain ⟨i, hi, rfl⟩ := List.getElem_of_mem hc
      have := congrArg (fun l => l[i]?) h3
      simp only [List.getElem?_map, List.getElem?_eq_getElem hi, Option.map_some] at this
      exact Option.some.inj this
    · cases s with
      | nil => simp at h1
      | cons c r => exact ⟨c, r, rfl, by simpa using h1⟩
  intro f
  obtain ⟨s', h1, h2, h3, h4, h5⟩ := wordy_case s f hall.1
  obtain ⟨c0, r0, hs, hd⟩ := hall.2
  obtain ⟨c', r', hs', hlet, hbl⟩ := h5 c0 r0 hs hd
  rw [h1]
  refine ⟨rfl, fun c hc => ?_⟩
  have hc' : c = [] ∨ ∃ x r, c = x :: r ∧ isWordy x = false := by
    rcases brk_stop hc with h | ⟨x, r, h, h1, _⟩
    · exact .inl h
    · exact .inr ⟨x, r, h, h1⟩
  obtain ⟨t1, t2⟩ := takeWhile_brk h3 hc'
  have ht : tokF (s' ++ c) = ⟨tW s, s'.length, 0⟩ := by
    have e : s' ++ c = c' :: (r' ++ c) := by rw [hs']; rfl
    rw [e]
    simp only [tokF, hbl, hlet, Bool.false_eq_true, if_false, if_true]
    rw [← e]
    unfold runF
    rw [t1, h4]
    rfl
  rw [lx_tok (by rw [hs']; simp) ht, List.drop_left]
  rfl
theorem dig_case : ∀ (s : List UInt8) (f : Nat → Bool), s.all isDig = true → caseT f false s = (s, false)
  | [], f, h => rfl
  | c :: s, f, h => by
    simp only [List.all_cons, Bool.and_eq_true] at h
    have hk := u8_all (p := fun c => !isDig c || (decide (c ≠ 39) && decide (c ≠ 32) && !(decide (65 ≤ c) && decide (c ≤ 90)))) (by decide +kernel) c
    simp only [h.1, Bool.not_true, Bool.false_or, Bool.and_eq_true, decide_eq_true_eq, Bool.not_eq_true', Bool.and_eq_false_iff, decide_eq_false_iff_not] at hk
    have hl : ¬ (65 ≤ c ∧ c ≤ 90) := fun ⟨a, b⟩ => by rcases hk.2 with h | h; exact h a; exact h b
    simp only [caseT, if_neg hk.1.1, dig_case s _ h.2]
    rw [if_neg (fun h => hl h.2), if_neg (fun h => hk.1.2 h.2)]
    rfl
theorem num_lx {n : Nat} (h : n ≤ maxI) : Lx (digL n) [⟨2, [], n⟩] := by
  intro f
  rw [dig_case _ f (digL_all n n (Nat.le_refl _))]
  refine ⟨rfl, fun c hc => ?_⟩
  have hd := digL_all n n (Nat.le_refl _)
  have hc' : c = [] ∨ ∃ x r, c = x :: r ∧ isDig x = false := by
    rcases brk_stop hc with h | ⟨x, r, h, _, _, h1, _⟩
    · exact .inl h
    · exact .inr ⟨x, r, h, h1⟩
  obtain ⟨t1, t2⟩ := takeWhile_brk hd hc'
  have hnum : numF (digL n ++ c) = ⟨⟨2, [], n⟩, (digL n).length, 0⟩ := by
    unfold numF
    rw [t1, t2, digL_num n n (Nat.le_refl _) h]
    unfold runF
    rw [t1]
    rcases brk_stop hc with rfl | ⟨x, r, rfl, _, h2, _⟩
    · rfl
    · simp [h2]
  have ht : tokF (digL n ++ c) = ⟨⟨2, [], n⟩, (digL n).length, 0⟩ := by
    cases hl : digL n with
    | nil => exact absurd hl (digL_ne n)
    | cons y l =>
      rw [hl] at hnum hd
      have hy : isDig y = true := by simp at hd; exact hd.1
      obtain ⟨w1, w2⟩ := dig_word hy
      rw [List.cons_append] at hnum ⊢
      simp only [tokF, w1, w2, hy, Bool.false_eq_true, if_false, if_true, hnum]
  rw [lx_tok (by intro h; exact digL_ne n (List.append_eq_nil_iff.1 h).1) ht, List.drop_left]
  rfl
theorem dbl_case : ∀ (s : List UInt8) (f : Nat → Bool), caseT f true (dbl s) = (dbl s, true)
  | [], f => rfl
  | c :: s, f => by
    have e : dbl (c :: s) = (if c = 39 then [39, 39] else [c]) ++ dbl s := rfl
    rw [e]
    by_cases hc : c = 39
    · rw [if_pos hc]
      simp only [List.cons_append, List.nil_append, caseT, dbl_case s]
      simp [dbl_case s]
    · rw [if_neg hc]
      simp only [List.cons_append, List.nil_append, caseT, if_neg hc, dbl_case s]
      simp
theorem text_case (s : List UInt8) (f : Nat → Bool) : caseT f false (39 :: dbl s ++ [39]) = (39 :: dbl s ++ [39], false) := by
  rw [List.cons_append]
  simp only [caseT]
  rw [caseT_app]
  simp only [if_true, Bool.not_false, dbl_case, caseT, Bool.not_true]
  simp
theorem textGo_end : ∀ (s acc : List UInt8) (i : Nat) (c : List UInt8), c.head? ≠ some 39 → (acc ++ s).length ≤ 64 → textGo acc i (dbl s ++ 39 :: c) = ⟨⟨3, acc ++ s, 0⟩, i + (dbl s).length + 1, 0⟩
  | [], acc, i, c, hc, hl => by
    have e : dbl [] = [] := rfl
    rw [e, List.nil_append, textGo_q _ _ _ hc, if_neg (by simpa using hl)]
    simp
  | x :: s, acc, i, c, hc, hl => by
    have e : dbl (x :: s) = (if x = 39 then [39, 39] else [x]) ++ dbl s := rfl
    have hl2 : ((acc ++ [x]) ++ s).length ≤ 64 := by simpa using hl
    rw [e]
    by_cases hx : x = 39
    · subst hx
      rw [if_pos rfl]
      simp only [List.cons_append, List.nil_append]
      rw [textGo_qq, textGo_end s _ _ c hc hl2]
      simp; omega
    · rw [if_neg hx]
      simp only [List.cons_append, List.nil_append]
      rw [textGo_c _ _ _ _ hx, textGo_end s _ _ c hc hl2]
      simp; omega
theorem text_lx {s : List UInt8} (h : s.length ≤ 64) : Lx (39 :: dbl s ++ [39]) [⟨3, s, 0⟩] := by
  intro f
  rw [text_case]
  refine ⟨rfl, fun c hc => ?_⟩
  have hq : c.head? ≠ some 39 := by
    rcases brk_stop hc with rfl | ⟨x, r, rfl, _, _, _, h1, _⟩
    · simp
    · simpa using h1
  have ht : tokF ((39 :: dbl s ++ [39]) ++ c) = ⟨⟨3, s, 0⟩, (39 :: dbl s ++ [39]).length, 0⟩ := by
    have e : (39 :: dbl s ++ [39]) ++ c = 39 :: (dbl s ++ 39 :: c) := by simp
    rw [e]
    simp only [tokF, show isBlank 39 = false from by decide, show isLet 39 = false from by decide, show isDig 39 = false from by decide, Bool.false_eq_true, if_false, if_true]
    rw [textGo_end s [] 1 c hq (by simpa using h)]
    simp; omega
  rw [lx_tok (by simp) ht, List.drop_left]
  rfl
theorem i64_nat {n : Int} (h : i64B n = true) : n.toNat ≤ maxI := by
  simp only [i64B, Bool.and_eq_true, decide_eq_true_eq] at h
  unfold maxI; omega
section
variable {s s' : List UInt8} {ts ts' : List Tok}
theorem brk32 (r : List UInt8) : Brk (32 :: r) := .inr ⟨32, r, rfl, .inl rfl⟩
theorem brk41 (r : List UInt8) : Brk (41 :: r) := .inr ⟨41, r, rfl, .inr (.inl rfl)⟩
theorem Lx.cast (h : Lx s ts) (e : s = s') (e' : ts = ts') : Lx s' ts' := by subst e e'; exact h
theorem Fx.cast (h : Fx s ts) (e : s = s') (e' : ts = ts') : Fx s' ts' := by subst e e'; exact h
theorem Lx.sp (h : Lx s ts) : Fx (s ++ [32]) ts := (h.fapp fx32 (brk32 _) (by simp)).cast rfl (by simp)
theorem Lx.par (h : Lx s ts) : Fx (s ++ [41]) (ts ++ [tS [41]]) := h.fapp fx41 (brk41 _) (by simp)
end
theorem word_ok {s : List UInt8} (h : wordF s = true) : wordOk s = true := by
  simp only [wordF, Bool.and_eq_true] at h
  exact h.1.2
theorem wlx {s : List UInt8} (h : wordOk s = true) : Fx (s ++ [32]) [tW s] := (word_lx h).sp
theorem showV_lx {v : Val} (h : mayV v = true) (h0 : 0 ≤ v.n) (hm : i64B v.n = true) : Lx (showL v) [tokV v] := by
  have hM := (mayV_iff v).1 h
  unfold showL tokV
  rw [if_pos hM]
  rcases hM with ⟨hk, -, -⟩ | ⟨hk, -, -⟩ | ⟨hk, -⟩ | ⟨hk, -, hl⟩
  · rw [if_neg (by omega), if_neg (by omega), if_neg (by omega), if_neg (by omega), if_neg (by omega), if_neg (by omega)]
    exact word_lx (by decide)
  · rw [if_pos hk, if_pos hk]
    by_cases h1 : v.n = 1
    · rw [if_pos h1]; exact word_lx (by decide)
    · rw [if_neg h1]; exact word_lx (by decide)
  · rw [if_neg (by omega), if_pos hk, if_neg (by omega), if_pos hk]
    unfold intL
    rw [if_neg (by omega)]
    exact num_lx (i64_nat hm)
  · rw [if_neg (by omega), if_neg (by omega), if_pos hk, if_neg (by omega), if_neg (by omega), if_pos hk]
    exact text_lx hl
theorem op_lx {s : List UInt8} (h : argsN s = 2) : Lx s [opTok s] := by
  rcases args_two h with rfl | rfl | rfl | rfl | rfl | rfl | rfl | rfl | rfl | rfl | rfl | rfl | rfl
  · exact (word_lx (s := wOR) (by decide)).cast rfl (by decide)
  · exact (word_lx (s := wAND) (by decide)).cast rfl (by decide)
  · exact fx61.lx_.cast rfl (by decide)
  · exact (two_fx 60 62 (by decide)).lx_.cast rfl (by decide)
  · exact (one_lx 60 (by decide)).cast rfl (by decide)
  · exact (two_fx 60 61 (by decide)).lx_.cast rfl (by decide)
  · exact (one_lx 62 (by decide)).cast rfl (by decide)
  · exact (two_fx 62 61 (by decide)).lx_.cast rfl (by decide)
  · exact fx43.lx_.cast rfl (by decide)
  · exact fx45.lx_.cast rfl (by decide)
  · exact fx42.lx_.cast rfl (by decide)
  · exact fx47.lx_.cast rfl (by decide)
  · exact fx37.lx_.cast rfl (by decide)
theorem two_lx {s a b : List UInt8} {v : Val} {ta tb : List Tok} (h : argsN s = 2) (ha : Lx a ta) (hb : Lx b tb) : Fx (showOp 3 s v [a, b]) (toksOp 3 s v [ta, tb]) := by
  rw [showOp_two h, toksOp_two h]
  exact (fx40.app (ha.sp.app ((op_lx h).sp.app hb.par))).cast (by simp) (by simp)
/-- The tokens of an expression. -/
theorem showE_lx : ∀ e : Ex, ∀ d, mayE e d = true → ExI e → Lx (showE e) (toksE e) := by
  apply Ex.ind
  intro k s v l ih d h hI
  rw [mayE] at h
  by_cases h0 : d = 0
  · rw [if_pos h0] at h; cases h
  rw [if_neg h0] at h
  by_cases h1 : k = 1
  · subst h1
    simp only [if_true, Bool.and_eq_true, decide_eq_true_eq] at h
    obtain ⟨⟨⟨rfl, h2⟩, h3⟩, h4⟩ := h
    exact showV_lx h3 h4 hI.val
  rw [if_neg h1] at h
  by_cases h2 : k = 2
  · subst h2
    simp only [if_true, Bool.and_eq_true, decide_eq_true_eq] at h
    obtain ⟨⟨rfl, h2⟩, h3⟩ := h
    exact word_lx (word_ok h3)
  rw [if_neg h2] at h
  simp only [Bool.and_eq_true, decide_eq_true_eq] at h
  obtain ⟨⟨⟨rfl, rfl⟩, h3⟩, h4⟩ := h
  have hm := mayEs_mem h4
  rcases args_range s with hs | hs | hs
  · obtain ⟨a, rfl⟩ : ∃ a, l = [a] := by
      match l, h3 with
      | [a], _ => exact ⟨a, rfl⟩
      | [], h3 => simp at h3; omega
      | a :: b :: r, h3 => simp at h3; omega
    have ha := ih a (by simp) _ (hm a (by simp)) (hI.arg a (by simp [Ex.args]))
    rcases args_one hs with rfl | rfl | rfl | rfl
    · have e1 : showE (.mk 3 wNOT .zero [a]) = [40, 78, 79, 84, 32] ++ showE a ++ [41] := rfl
      have e2 : toksE (.mk 3 wNOT .zero [a]) = tS [40] :: (tW wNOT :: toksE a) ++ [tS [41]] := rfl
      rw [e1, e2]
      exact (fx40.app ((wlx (s := wNOT) (by decide)).app ha.par)).lx_.cast (by simp [wNOT]) (by simp)
    · have e1 : showE (.mk 3 wISNULL .zero [a]) = 40 :: showE a ++ [32, 73, 83, 32, 78, 85, 76, 76, 41] := rfl
      have e2 : toksE (.mk 3 wISNULL .zero [a]) = tS [40] :: (toksE a ++ [tW wIS, tW wNULL]) ++ [tS [41]] := rfl
      rw [e1, e2]
      exact (fx40.app (ha.sp.app ((wlx (s := wIS) (by decide)).app (word_lx (s := wNULL) (by decide)).par))).lx_.cast (by simp [wIS, wNULL]) (by simp)
    · have e1 : showE (.mk 3 wNOTNULL .zero [a]) = 40 :: showE a ++ [32, 73, 83, 32, 78, 79, 84, 32, 78, 85, 76, 76, 41] := rfl
      have e2 : toksE (.mk 3 wNOTNULL .zero [a]) = tS [40] :: (toksE a ++ [tW wIS, tW wNOT, tW wNULL]) ++ [tS [41]] := rfl
      rw [e1, e2]
      exact (fx40.app (ha.sp.app ((wlx (s := wIS) (by decide)).app ((wlx (s := wNOT) (by decide)).app (word_lx (s := wNULL) (by decide)).par)))).lx_.cast (by simp [wIS, wNOT, wNULL]) (by simp)
    · have e1 : showE (.mk 3 wNEG .zero [a]) = [40, 45, 32] ++ showE a ++ [41] := rfl
      have e2 : toksE (.mk 3 wNEG .zero [a]) = tS [40] :: (tS [45] :: toksE a) ++ [tS [41]] := rfl
      rw [e1, e2]
      exact (fx40.app (fx45.app (fx32.app ha.par))).lx_.cast (by simp) (by simp)
  · obtain ⟨a, b, rfl⟩ : ∃ a b, l = [a, b] := by
      match l, h3 with
      | [a, b], _ => exact ⟨a, b, rfl⟩
      | [], h3 => simp at h3; omega
      | [a], h3 => simp at h3; omega
      | a :: b :: c :: r, h3 => simp at h3; omega
    have ha := ih a (by simp) _ (hm a (by simp)) (hI.arg a (by simp [Ex.args]))
    have hb := ih b (by simp) _ (hm b (by simp)) (hI.arg b (by simp [Ex.args]))
    exact (two_lx hs ha hb).lx_
  · rw [hs] at h3; omega
theorem spw {s : List UInt8} (h : wordOk s = true) : Fx (32 :: s ++ [32]) [tW s] := (fx32.app (wlx h)).cast (by simp) (by simp)
theorem lex_of {s : List UInt8} {ts : List Tok} (h : lx s = some ts) (hl : s.length ≤ 2000) : ∃ T, lexF s = (0, T ++ [(s.length, tE)]) ∧ T.map (·.2) = ts := by
  unfold lx at h
  unfold lexF
  rw [if_neg (by omega)]
  by_cases h0 : (lexFrom 0 s).1 = 0
  · rw [if_pos h0] at h ⊢
    injection h with h
    exact ⟨_, rfl, h⟩
  · rw [if_neg h0] at h; cases h
theorem lx_of {s : List UInt8} {ts : List Tok} (h : Lx s ts) (f : Nat → Bool) : lx (caseT f false s).1 = some ts := by
  have := (h f).2 [] (.inl rfl)
  rw [List.append_nil, lx_nil] at this
  simpa using this
theorem lx_self {s : List UInt8} {ts : List Tok} (h : Lx s ts) : lx s = some ts := by
  have := lx_of h fun _ => false
  rwa [caseT_off] at this
theorem parse_long {s : List UInt8} (h : 2000 < s.length) : parseF s = (.zero, 0, 3) := by
  unfold parseF lexF
  rw [if_pos h]
  simp
end Go.Proofs.YtdfojghhpdkpfaaGreatDoor
namespace Go.Proofs.YtdfojghhpdkpfaaGreatDoor
open Go.RowKit Go.ChangeShapes Go.WideShapes Go.ChangeAt
/-- Which cells of type t read as which data; kept while the blocks of S stay. -/
structure Codec (P : Program) (t : TypeId) (α : Type) where
  ok : World → (Nat → Prop) → List Value → α → Prop
  keep : ∀ {S : Nat → Prop} {w w' : World} {vs : List Value} {x : α}, Same S w w' → ok w S vs x → ok w' S vs x
  size : ∀ {S : Nat → Prop} {w : World} {vs : List Value} {x : α}, ok w S vs x → vs.length = P.cellsOf t
  opens : ∀ {H : Type} {enc : TypeId × Value → H} {W : World} {fuel : Nat} {cs : List Value} {x : DataW H × List MemPlace},
    DataW.trod enc P W 0 (fun _ => true) true fuel t cs = some x → ∃ a, ok W (· < W.heap.size) cs a
section
variable {P : Program} {t e : TypeId} {α β : Type}
def cInt (k : IntKind) (ht : P.underlying t = some (.int k)) (hc : P.cellsOf t = 1) : Codec P t Int where
  ok _ _ vs n := vs = [.int k n] ∧ (Lit.int k n).wf = true
  keep _ h := h
  size h := by rw [h.1, hc]; rfl
  opens h := by
    obtain ⟨n, h1, _, h2⟩ := DataW.trod_int ht h
    exact ⟨n, h1, h2⟩
def cStr (ht : P.underlying t = some .string) (hc : P.cellsOf t = 1) : Codec P t (List UInt8) where
  ok _ _ vs l := vs = [.string (str l)] ∧ l.length ≤ maxLen
  keep _ h := h
  size h := by rw [h.1, hc]; rfl
  opens h := by
    obtain ⟨s, h1, _, h2⟩ := DataW.trod_string ht h
    exact ⟨s.data.toList, by rw [h1, ← str_get], by rw [Array.length_toList]; exact h2⟩
/-- A slice of whatever reads: the element i lies at i rows behind the head. -/
def SlOf (C : Codec P e α) (w : World) (S : Nat → Prop) (v : Value) (xs : List α) : Prop :=
  ∃ A c, v = .slice A xs.length c ∧ xs.length ≤ c ∧ c ≤ maxLen ∧
    ∀ i x, xs[i]? = some x → ∃ ad us, A = some ad ∧ S ad.block ∧ (∀ j u, us[j]? = some u → w.cell? (ad.add (i * P.cellsOf e + j)) = some u) ∧ C.ok w S us x
theorem SlOf.keep {C : Codec P e α} {w w' : World} {S : Nat → Prop} {v : Value} {xs : List α} (h : SlOf C w S v xs) (hs : Same S w w') : SlOf C w' S v xs := by
  obtain ⟨A, c, h1, h2, h3, h4⟩ := h
  refine ⟨A, c, h1, h2, h3, fun i x hx => ?_⟩
  obtain ⟨ad, us, a1, a2, a3, a4⟩ := h4 i x hx
  exact ⟨ad, us, a1, a2, fun j u hu => hs.cell (by rw [block_of_add]; exact a2) (a3 j u hu), C.keep hs a4⟩
theorem SlOf.opens {C : Codec P e α} (ht : P.underlying t = some (.slice e)) (hc : 0 < P.cellsOf e) {H : Type} {enc : TypeId × Value → H} {W : World} {fuel : Nat} {cs : List Value} {x : DataW H × List MemPlace}
    (h : DataW.trod enc P W 0 (fun _ => true) true fuel t cs = some x) : ∃ v xs, cs = [v] ∧ SlOf C W (· < W.heap.size) v xs := by
  rcases Go.Deep.open_slice ht h with ⟨rfl, _⟩ | ⟨a, len, cap, m, n, D, Pl, rfl, _, hl, hm, hmm, _, hel⟩
  · exact ⟨_, [], rfl, none, 0, rfl, Nat.le_refl _, by simp [maxLen], fun i x hx => by simp at hx⟩
  · simp only [if_true] at hmm
    subst hmm
    have each : ∀ i, i < len → ∃ p : List Value × α, (∀ j u, p.1[j]? = some u → W.cell? (a.add (i * P.cellsOf e + j)) = some u) ∧ C.ok W (· < W.heap.size) p.1 p.2 := by
      intro i hi
      obtain ⟨cs', hcs, htr⟩ := hel i (by omega)
      obtain ⟨y, hy⟩ := C.opens htr
      obtain ⟨_, hlen, hat⟩ := World.cells?_some hcs
      refine ⟨(cs', y), fun j u hu => ?_, hy⟩
      have hj : j < cs'.length := by
        rcases Nat.lt_or_ge j cs'.length with h | h
        · exact h
        · rw [List.getElem?_eq_none h] at hu; cases hu
      have := hat j (by omega)
      rw [← add_of_add, this]
      exact hu
    rcases Nat.eq_zero_or_pos len with h0 | h0
    · subst h0
      exact ⟨_, [], rfl, some a, m, rfl, by simp, hm, fun i x hx => by simp at hx⟩
    obtain ⟨p0, _⟩ := each 0 h0
    haveI : Inhabited (List Value × α) := ⟨p0⟩
    obtain ⟨F, hF⟩ := Go.Deep.choose_lt each
    refine ⟨_, (List.range len).map fun i => (F i).2, rfl, some a, m, by simp, by simpa using hl, hm, fun i x hx => ?_⟩
    by_cases hi : i < len
    · simp [hi] at hx
      subst hx
      obtain ⟨h1, h2⟩ := hF i hi
      refine ⟨a, (F i).1, rfl, ?_, h1, h2⟩
      have hz := C.size h2
      have := World.block_lt_of_cell? W _ (h1 0 _ (List.getElem?_eq_getElem (by omega)))
      rw [block_of_add] at this
      exact this
    · simp [hi] at hx
/-- The fields of a struct. -/
structure FCod (P : Program) (fs : List Field) (α : Type) where
  ok : World → (Nat → Prop) → List Value → α → Prop
  keep : ∀ {S : Nat → Prop} {w w' : World} {vs : List Value} {x : α}, Same S w w' → ok w S vs x → ok w' S vs x
  opens : ∀ {H : Type} {enc : TypeId × Value → H} {W : World} {n : Nat} {cs : List Value},
    (∀ f, f ∈ fs → ∃ y, DataW.trod enc P W 0 (fun _ => true) true n f.type ((cs.drop f.offset).take (P.cellsOf f.type)) = some y) → ∃ a, ok W (· < W.heap.size) cs a
def fnil : FCod P [] Unit where
  ok _ _ _ _ := True
  keep _ h := h
  opens _ := ⟨(), trivial⟩
def fcons (off n : Nat) {f : Field} {fs : List Field} (C : Codec P f.type α) (R : FCod P fs β) (ho : f.offset = off := by rfl) (hn : P.cellsOf f.type = n := by kernel_rfl) : FCod P (f :: fs) (α × β) where
  ok w S vs x := C.ok w S ((vs.drop off).take n) x.1 ∧ R.ok w S vs x.2
  keep hs h := ⟨C.keep hs h.1, R.keep hs h.2⟩
  opens h := by
    obtain ⟨y, hy⟩ := h f (by simp)
    rw [ho, hn] at hy
    obtain ⟨a, ha⟩ := C.opens hy
    obtain ⟨b, hb⟩ := R.opens (fun g hg => h g (by simp [hg]))
    exact ⟨(a, b), ha, hb⟩
def cStruct {fs : Array Field} (R : FCod P fs.toList β) (F : β → α) (ht : P.underlying t = some (.struct fs)) : Codec P t α where
  ok w S vs x := vs.length = P.cellsOf t ∧ ∃ b, x = F b ∧ R.ok w S vs b
  keep hs h := by
    obtain ⟨h0, b, h1, h2⟩ := h
    exact ⟨h0, b, h1, R.keep hs h2⟩
  size h := h.1
  opens h := by
    obtain ⟨xs, n, _, _, h1, h2, h3⟩ := DataW.trod_struct ht h
    obtain ⟨b, hb⟩ := R.opens (enc := _) (n := n) (fun f hf => by
      obtain ⟨i, hi, rfl⟩ := List.mem_iff_getElem.1 hf
      have hi' : i < fs.size := by simpa using hi
      have := h3 i fs[i] (by simp [hi'])
      refine ⟨xs[i]'(by omega), ?_⟩
      rw [List.getElem?_eq_getElem (by omega)] at this
      exact this)
    exact ⟨F b, h1, b, rfl, hb⟩
end
end Go.Proofs.YtdfojghhpdkpfaaGreatDoor
namespace Go.Proofs.YtdfojghhpdkpfaaGreatDoor
def headD : List UInt8 := [68, 69, 76, 69, 84, 69, 32, 70, 82, 79, 77, 32, 84, 32, 87, 72, 69, 82, 69, 32]
def delS (e : Ex) : Stm := ⟨4, [84], [], [], [], true, e, [], false, 0⟩
def delL (e : Ex) : LotM := ⟨0, 0, [delS e]⟩
theorem lotT_del (e : Ex) : lotT (delL e) = headD ++ showE e := by
  simp [lotT, delL, joinT, modeT, showS, headS, tailS, delS, headD]
theorem may_del (e : Ex) : mayLot (delL e) = mayE e 16 := by
  have h : wordF [84] = true := by decide
  simp [mayLot, delL, mayS, delS, h]
theorem headD_fx : Fx headD [tW wDELETE, tW wFROM, tW [84], tW wWHERE] :=
  (((wlx (s := wDELETE) (by decide)).app ((wlx (s := wFROM) (by decide)).app ((wlx (s := [84]) (by decide)).app (wlx (s := wWHERE) (by decide)))))).cast (by decide) (by simp)
theorem del_read {s : List UInt8} {ts : List Tok} {d : Dp} {k : Nat} (h : Lx s ts) (hr : Rd k .or ts d) (hk : k ≤ 200) (hl : (headD ++ s).length ≤ 2000) : parseF (headD ++ s) = (delL d.e, 0, 0) := by
  obtain ⟨T, h1, h2⟩ := lex_of (lx_self (headD_fx.lapp h)) hl
  unfold parseF
  rw [h1]
  simp only [if_true]
  obtain ⟨p1, T1, rfl, h3⟩ := map_cons h2
  obtain ⟨p2, T2, rfl, h4⟩ := map_cons h3
  obtain ⟨p3, T3, rfl, h5⟩ := map_cons h4
  obtain ⟨p4, T, rfl, h6⟩ := map_cons h5
  clear h2 h3 h4 h5
  have h2 : T.map (·.2) = ts := h6
  generalize (headD ++ s).length = n
  have he : exprT (T ++ [(n, tE)]) = .ok (d.e, [(n, tE)]) := by
    unfold exprT
    rw [hr 200 hk T _ h2 (by rw [hdT_cons]; show aft .or tE = true; decide)]
    rfl
  have hs : stmtT ((p1, tW wDELETE) :: (p2, tW wFROM) :: (p3, tW [84]) :: (p4, tW wWHERE) :: (T ++ [(n, tE)])) = .ok (delS d.e, [(n, tE)]) := by
    unfold stmtT
    simp only [isT_K, hdT_cons]
    rw [if_neg (by decide), if_neg (by decide), if_neg (by decide)]
    unfold deleteT
    rw [must_more (by decide), must_one (by decide), thenT_ok, name_go (by decide), thenT_ok]
    unfold whereT
    simp only [isT_K, hdT_cons, List.tail_cons]
    rw [if_pos (by decide), he, thenT_ok]
    rfl
  simp only [List.cons_append]
  have hL : lotP ((p1, tW wDELETE) :: (p2, tW wFROM) :: (p3, tW [84]) :: (p4, tW wWHERE) :: (T ++ [(n, tE)])) = .ok (delL d.e, [(n, tE)]) := by
    unfold lotP
    rw [hs, thenT_ok]
    have e1 : stmtsT [(n, tE)].length [delS d.e] [(n, tE)] = .ok ([delS d.e], [(n, tE)]) := by
      show (if isT [59] [(n, tE)] = true then _ else _) = _
      rw [isT_K, hdT_cons, if_neg (show ¬ isK [59] tE = true by decide)]
    rw [e1, thenT_ok]
    have e2 : asofT [delS d.e] [(n, tE)] = .ok (delL d.e, [(n, tE)]) := by
      unfold asofT
      rw [isT_K, hdT_cons, if_neg (show ¬ isK wAS tE = true by decide)]
      rfl
    rw [e2, thenT_ok, hdT_cons, if_pos (show (n, tE).2.kind = 0 from rfl)]
  rw [hL]
/-- In brackets. -/
theorem par_read {a : Ex} (h : mayE a 16 = true) : Rd 135 .unary (tS [40] :: toksE a ++ [tS [41]]) ⟨a, a.deep⟩ := by
  obtain ⟨h1, h2, -, -⟩ := expr_read a 16 (by omega) h
  exact (h1.up h2).paren
theorem par_lx {a : Ex} (h : mayE a 16 = true) (hI : ExI a) : Fx (40 :: showE a ++ [41]) (tS [40] :: toksE a ++ [tS [41]]) :=
  (fx40.app (showE_lx a 16 h hI).par).cast (by simp) (by simp)
def plainBr (a : List UInt8) : List UInt8 := headD ++ ([40, 40] ++ a ++ [41, 41])
def chainBr (a b c : List UInt8) : List UInt8 := headD ++ ([40] ++ a ++ [41, 32, 79, 82, 32, 40] ++ b ++ [41, 32, 65, 78, 68, 32, 78, 79, 84, 32, 40] ++ c ++ [41])
def sumsBr (a b c : List UInt8) : List UInt8 := headD ++ ([40] ++ a ++ [41, 32, 45, 32, 40] ++ b ++ [41, 32, 42, 32, 40] ++ c ++ [41, 32, 61, 32, 45, 32, 40] ++ a ++ [41])
def wantE (a b c : Ex) : Ex := .mk 3 wOR .zero [a, .mk 3 wAND .zero [b, .mk 3 wNOT .zero [c]]]
def lessE (a b c : Ex) : Ex := .mk 3 [61] .zero [.mk 3 [45] .zero [a, .mk 3 [42] .zero [b, c]], .mk 3 wNEG .zero [a]]
theorem plain_read {a : Ex} (h : mayE a 16 = true) (hI : ExI a) (hl : (plainBr (showE a)).length ≤ 2000) : parseF (plainBr (showE a)) = (delL a, 0, 0) := by
  refine del_read (d := ⟨a, a.deep⟩) (k := 148) (ts := tS [40] :: (tS [40] :: toksE a ++ [tS [41]]) ++ [tS [41]]) ?_ ?_ (by omega) hl
  · exact (fx40.app ((par_lx h hI).app fx41)).lx_.cast (by simp) (by simp)
  · exact (((par_read h).up (notNot_paren _)).paren).up (notNot_paren _)
theorem chain_read {a b c : Ex} (ha : mayE a 16 = true) (hb : mayE b 16 = true) (hc : mayE c 16 = true) (ia : ExI a) (ib : ExI b) (ic : ExI c) (da : a.deep ≤ 12) (db : b.deep ≤ 12) (dc : c.deep ≤ 12)
    (hl : (chainBr (showE a) (showE b) (showE c)).length ≤ 2000) : parseF (chainBr (showE a) (showE b) (showE c)) = (delL (wantE a b c), 0, 0) := by
  have na : NotNot (tS [40] :: toksE a ++ [tS [41]]) := notNot_paren _
  have nb : NotNot (tS [40] :: toksE b ++ [tS [41]]) := notNot_paren _
  have nc : NotNot (tS [40] :: toksE c ++ [tS [41]]) := notNot_paren _
  have r1 : Rd 140 .not (tW wNOT :: (tS [40] :: toksE c ++ [tS [41]])) (opD wNOT [⟨c, c.deep⟩]) := (((((par_read hc).prod).sum).cmp).not nc).nots (by dsimp only; omega)
  have r2 : Rd 141 .and ((tS [40] :: toksE b ++ [tS [41]]) ++ tW wAND :: (tW wNOT :: (tS [40] :: toksE c ++ [tS [41]]))) (opD wAND [⟨b, b.deep⟩, opD wNOT [⟨c, c.deep⟩]]) :=
    Rd.bin (k := 140) (signs := [wAND]) (t := tW wAND) (fun n l => rfl) (by decide) (by decide) (fun x hx => by simp only [aft, Bool.and_eq_true, Bool.not_eq_true'] at hx ⊢; exact hx) ((((((par_read hb).prod).sum).cmp).not nb).mono (by omega)) r1 (by simp [deepOf, opD]; omega)
  have r3 : Rd 142 .or ((tS [40] :: toksE a ++ [tS [41]]) ++ tW wOR :: ((tS [40] :: toksE b ++ [tS [41]]) ++ tW wAND :: (tW wNOT :: (tS [40] :: toksE c ++ [tS [41]])))) (opD wOR [⟨a, a.deep⟩, opD wAND [⟨b, b.deep⟩, opD wNOT [⟨c, c.deep⟩]]]) :=
    Rd.bin (k := 141) (signs := [wOR]) (t := tW wOR) (fun n l => rfl) (by decide) (by decide) (fun x hx => by simp only [aft, Bool.and_eq_true, Bool.not_eq_true'] at hx ⊢; exact hx) (((((((par_read ha).prod).sum).cmp).not na).and).mono (by omega)) r2 (by simp [deepOf, opD]; omega)
  refine del_read (k := 142) ?_ r3 (by omega) hl
  exact ((par_lx ha ia).app ((spw (s := wOR) (by decide)).app ((par_lx hb ib).app ((spw (s := wAND) (by decide)).app ((wlx (s := wNOT) (by decide)).app (par_lx hc ic)))))).lx_.cast (by simp [wOR, wAND, wNOT]) (by simp)
theorem sums_read {a b c : Ex} (ha : mayE a 16 = true) (hb : mayE b 16 = true) (hc : mayE c 16 = true) (ia : ExI a) (ib : ExI b) (ic : ExI c) (da : a.deep ≤ 12) (db : b.deep ≤ 12) (dc : c.deep ≤ 12)
    (hl : (sumsBr (showE a) (showE b) (showE c)).length ≤ 2000) : parseF (sumsBr (showE a) (showE b) (showE c)) = (delL (lessE a b c), 0, 0) := by
  have na : NotNot (tS [40] :: toksE a ++ [tS [41]]) := notNot_paren _
  have r1 : Rd 136 .prod ((tS [40] :: toksE b ++ [tS [41]]) ++ tS [42] :: (tS [40] :: toksE c ++ [tS [41]])) (opD [42] [⟨b, b.deep⟩, ⟨c, c.deep⟩]) :=
    Rd.bin (k := 135) (signs := [[42], [47], [37]]) (t := tS [42]) (fun n l => rfl) (by decide) (by decide) (fun x hx => ⟨rfl, by simpa [aft] using hx⟩) (par_read hb) (par_read hc) (by simp [deepOf]; omega)
  have r2 : Rd 137 .sum ((tS [40] :: toksE a ++ [tS [41]]) ++ tS [45] :: ((tS [40] :: toksE b ++ [tS [41]]) ++ tS [42] :: (tS [40] :: toksE c ++ [tS [41]]))) (opD [45] [⟨a, a.deep⟩, opD [42] [⟨b, b.deep⟩, ⟨c, c.deep⟩]]) :=
    Rd.bin (k := 136) (signs := [[43], [45]]) (t := tS [45]) (fun n l => rfl) (by decide) (by decide) (fun x hx => by simp only [aft, Bool.and_eq_true, Bool.not_eq_true'] at hx ⊢; exact hx) ((par_read ha).prod) r1 (by simp [deepOf, opD]; omega)
  have r3 : Rd 136 .unary (tS [45] :: (tS [40] :: toksE a ++ [tS [41]])) (opD wNEG [⟨a, a.deep⟩]) := (par_read ha).neg (by dsimp only; omega)
  have r4 : Rd 139 .cmp (((tS [40] :: toksE a ++ [tS [41]]) ++ tS [45] :: ((tS [40] :: toksE b ++ [tS [41]]) ++ tS [42] :: (tS [40] :: toksE c ++ [tS [41]]))) ++ tS [61] :: (tS [45] :: (tS [40] :: toksE a ++ [tS [41]]))) (opD [61] [opD [45] [⟨a, a.deep⟩, opD [42] [⟨b, b.deep⟩, ⟨c, c.deep⟩]], opD wNEG [⟨a, a.deep⟩]]) :=
    Rd.rel (k := 138) (t := tS [61]) (by decide) (by decide) (r2.mono (by omega)) ((r3.prod).sum) (by simp [deepOf, opD]; omega)
  refine del_read (k := 142) ?_ ((((r4.not (notNot_app (notNot_app na))).and).or)) (by omega) hl
  have sp : ∀ {s : List UInt8} {ts : List Tok}, Fx s ts → Fx (32 :: s ++ [32]) ts := fun h => (fx32.app (h.app fx32)).cast (by simp) (by simp)
  exact ((par_lx ha ia).app ((sp fx45).app ((par_lx hb ib).app ((sp fx42).app ((par_lx hc ic).app ((sp fx61).app (fx45.app (fx32.app (par_lx ha ia))))))))).lx_.cast (by simp) (by simp)
end Go.Proofs.YtdfojghhpdkpfaaGreatDoor
namespace Go.Proofs.YtdfojghhpdkpfaaGreatDoor
open Go.RowKit
def IntP (w : World) (e : Ending) (w' : World) : Prop := (∃ m : Int, e = .returned (.int .i64 m)) ∧ Same (fun _ => True) w w'
set_option maxRecDepth 100000 in
set_option maxHeartbeats 4000000 in
theorem count_any : ∀ (e : Ex) (n : Int) (u : Value) (w : World), ExR w (fun _ => True) u e → Calls Tryz.prog 11 #[exV u e, .int .i64 n] w (IntP w) := by
  apply Ex.ind
  intro k s v l ih n u w hr
  obtain ⟨A, c, rfl, hc1, hc2⟩ := hr.toL.form
  have hl : ExL w (fun _ => True) (.slice A l.length c) l := hr.toL
  have hc1 : l.length ≤ c := hc1
  show Calls Tryz.prog 11 #[.agg #[.int .i64 k, .string (str s), .int .i64 v.kind, .int .i64 v.n, .string (str v.s), .slice A l.length c], .int .i64 n] w (IntP w)
  unfold maxLen at hc2
  have hA := (Same.refl (fun _ => True) w).alloc (.cells #[.int .i64 k, .string (str s), .int .i64 v.kind, .int .i64 v.n, .string (str v.s), .slice A l.length c] 34)
  have hrow := Row.new w 34 [.int .i64 k, .string (str s), .int .i64 v.kind, .int .i64 v.n, .string (str v.s), .slice A l.length c]
  have hl1 := hl.keepAll hA
  have hlc : (l.length : Int) ≤ (c : Int) := by omega
  clear hr hl
  go_enter Tryz.func11, Tryz.ntmps11
  go_upto_region 1 with (fail)
  revert hA hrow hl1
  generalize w.alloc _ = w1
  intro hA hrow hl1
  have HL := Lib.hid hl1
  have HS := Lib.hid hA
  have c5 := hrow.cell 5
  simp only [List.getElem?_cons_zero, List.getElem?_cons_succ] at c5
  clear hA hl1 hrow
  go_wp2
  go_loopw [5, 6] (fun x i wr => ∃ (q : Nat) (m : Int), x = .int .i64 m ∧ i = .int .i64 (q : Int) ∧ q ≤ l.length ∧ Same (fun _ => True) w1 wr) (fun _ i _ => l.length - (intOf i).toNat)
  case atStart => exact ⟨0, 1, rfl, rfl, Nat.zero_le _, Same.refl _ _⟩
  case round =>
    obtain ⟨q, m, rfl, rfl, hq, hS⟩ := hrel
    have x1 : (0 : Int) ≤ (q : Int) := by omega
    have HS2 := Lib.hid hS
    have HL2 := Lib.hid (HL.out.keepAll hS)
    have k5 := hS.cell (p := ⟨w.heap.size, 5, none⟩) trivial c5
    clear hS
    by_cases hql : q < l.length
    · have x2 : (q : Int) < (l.length : Int) := by omega
      obtain ⟨ad, uq, rfl, -, hlq, d0, d1, d2, d3, d4, d5⟩ := ExL.cells HL2.out hql
      obtain ⟨Aq, cq, rfl, -, -⟩ := hlq.form
      have hmem : l[q] ∈ l := List.getElem_mem hql
      by_cases hmn : m ≤ n
      · have hlq1 := (ExR.iff _ l[q]).2 hlq
        clear hlq
        go_wp2_with (go_at_call 11; refine stopAt ?_)
        unfold Hid
        refine (ih l[q] hmem _ (.slice Aq l[q].args.length cq) _ hlq1).mono ?_
        rintro e w5 ⟨⟨m2, rfl⟩, hS⟩
        have HS5 := Lib.hid (HS2.out.trans hS)
        clear hS hlq1 hmem
        go_wp2
        go_roundw
        case rel => exact ⟨q + 1, _, rfl, by go_num, by omega, HS5.out⟩
        case measure => simp [intOf]; omega
      · go_wp2
        go_ret
        exact ⟨⟨m, rfl⟩, HS.out.trans HS2.out⟩
    · obtain rfl : q = l.length := by omega
      go_wp2
      go_ret
      exact ⟨⟨m, rfl⟩, HS.out.trans HS2.out⟩
theorem deepL_snoc (l : List Ex) (e : Ex) : deepL (l ++ [e]) = max (deepL l) e.deep := by
  induction l with
  | nil => simp [deepL]
  | cons a l ih => simp only [List.cons_append, deepL, ih]; omega
theorem deepL_take {l : List Ex} {q : Nat} (h : q < l.length) : deepL (l.take (q + 1)) = max (deepL (l.take q)) l[q].deep := by
  rw [List.take_succ_eq_append_getElem h, deepL_snoc]
theorem deepL_mem {l : List Ex} {e : Ex} (h : e ∈ l) : e.deep ≤ deepL l := by
  induction l with
  | nil => cases h
  | cons a l ih =>
    simp only [deepL]
    rcases List.mem_cons.1 h with rfl | h
    · omega
    · have := ih h; omega
theorem ret_int {a b : Int} (h : a = b) : Ending.returned (.int .i64 a) = .returned (.int .i64 b) := by rw [h]
set_option maxRecDepth 100000 in
set_option maxHeartbeats 4000000 in
theorem refdeep_any : ∀ (e : Ex) (u : Value) (w : World), ExR w (fun _ => True) u e → e.deep ≤ 100 → Calls Tryz.prog 13 #[exV u e] w fun e' w' => e' = .returned (.int .i64 (e.deep : Int)) ∧ Same (fun _ => True) w w' := by
  apply Ex.ind
  intro k s v l ih u w hr hd
  obtain ⟨A, c, rfl, hc1, hc2⟩ := hr.toL.form
  have hl : ExL w (fun _ => True) (.slice A l.length c) l := hr.toL
  have hc1 : l.length ≤ c := hc1
  show Calls Tryz.prog 13 #[.agg #[.int .i64 k, .string (str s), .int .i64 v.kind, .int .i64 v.n, .string (str v.s), .slice A l.length c]] w _
  have hd : deepL l + 1 ≤ 100 := hd
  unfold maxLen at hc2
  have hA := (Same.refl (fun _ => True) w).alloc (.cells #[.int .i64 k, .string (str s), .int .i64 v.kind, .int .i64 v.n, .string (str v.s), .slice A l.length c] 34)
  have hrow := Row.new w 34 [.int .i64 k, .string (str s), .int .i64 v.kind, .int .i64 v.n, .string (str v.s), .slice A l.length c]
  have hl1 := hl.keepAll hA
  have hlc : (l.length : Int) ≤ (c : Int) := by omega
  obtain ⟨X, hX⟩ : ∃ X, X = (Ex.mk k s v l).deep := ⟨_, rfl⟩
  rw [← hX]
  have hX : X = deepL l + 1 := hX
  have HX := Lib.hid hX
  clear hr hl hX
  go_enter Tryz.func13, Tryz.ntmps13
  go_upto_region 1 with (fail)
  revert hA hrow hl1
  generalize w.alloc _ = w1
  intro hA hrow hl1
  have HL := Lib.hid hl1
  have HS := Lib.hid hA
  have c5 := hrow.cell 5
  simp only [List.getElem?_cons_zero, List.getElem?_cons_succ] at c5
  clear hA hl1 hrow
  go_wp2
  go_loopw [3, 4] (fun x i wr => ∃ q : Nat, x = .int .i64 (deepL (l.take q) : Int) ∧ i = .int .i64 (q : Int) ∧ q ≤ l.length ∧ Same (fun _ => True) w1 wr) (fun _ i _ => l.length - (intOf i).toNat)
  case atStart => exact ⟨0, rfl, rfl, Nat.zero_le _, Same.refl _ _⟩
  case round =>
    obtain ⟨q, rfl, rfl, hq, hS⟩ := hrel
    have x1 : (0 : Int) ≤ (q : Int) := by omega
    have HS2 := Lib.hid hS
    have HL2 := Lib.hid (HL.out.keepAll hS)
    have k5 := hS.cell (p := ⟨w.heap.size, 5, none⟩) trivial c5
    clear hS
    by_cases hql : q < l.length
    · have x2 : (q : Int) < (l.length : Int) := by omega
      obtain ⟨ad, uq, rfl, -, hlq, d0, d1, d2, d3, d4, d5⟩ := ExL.cells HL2.out hql
      obtain ⟨Aq, cq, rfl, -, -⟩ := hlq.form
      have hmem : l[q] ∈ l := List.getElem_mem hql
      have hle := deepL_mem hmem
      have hlq1 := (ExR.iff _ l[q]).2 hlq
      have HD : Hid (deepL (l.take (q + 1)) = max (deepL (l.take q)) l[q].deep) := Lib.hid (deepL_take hql)
      have HLE : Hid (l[q].deep ≤ 100) := Lib.hid (by omega)
      clear hlq hle
      go_wp2_with (go_at_call 13; refine stopAt ?_)
      unfold Hid
      refine (ih l[q] hmem (.slice Aq l[q].args.length cq) _ hlq1 HLE.out).mono ?_
      rintro e w5 ⟨rfl, hS⟩
      have HS5 := Lib.hid (HS2.out.trans hS)
      clear hS hlq1 hmem
      generalize l[q].deep = m at *
      generalize deepL (l.take q) = n at *
      have HM : Hid (((max n m : Nat) : Int) = max (n : Int) (m : Int)) := Lib.hid (by omega)
      go_wp2
      go_roundw
      case rel => exact ⟨q + 1, by rw [HD.out, HM.out], by go_num, by omega, HS5.out⟩
      case measure => simp [intOf]; omega
    · obtain rfl : q = l.length := by omega
      have h2 : deepL (l.take l.length) = deepL l := by rw [List.take_length]
      rw [h2]
      clear h2
      go_wp2
      go_ret
      exact ⟨ret_int (by rw [HX.out]; omega), HS.out.trans HS2.out⟩
theorem sameEs_len {l l' : List Ex} (h : ¬ l.length = l'.length) : sameEs l l' = false := by
  cases hb : sameEs l l' with
  | false => rfl
  | true => exact absurd (congrArg List.length ((sameEs_iff l l').1 hb)) h
theorem sameEs_drop {l l' : List Ex} {q : Nat} (h : q < l.length) (h' : q < l'.length) : sameEs (l.drop q) (l'.drop q) = (sameE l[q] l'[q] && sameEs (l.drop (q + 1)) (l'.drop (q + 1))) := by
  rw [List.drop_eq_getElem_cons h, List.drop_eq_getElem_cons h', sameEs]
theorem str_ne_t {s x : List UInt8} (h : ¬ s = x) : (s != x) = true := by simpa using h
theorem str_ne_f {s x : List UInt8} (h : s = x) : (s != x) = false := by subst h; simp
set_option maxRecDepth 100000 in
set_option maxHeartbeats 8000000 in
theorem refsamex_any : ∀ (e e' : Ex) (u u' : Value) (w : World), ExR w (fun _ => True) u e → ExR w (fun _ => True) u' e' → Calls Tryz.prog 14 #[exV u e, exV u' e'] w (BoolP (sameE e e') w) := by
  apply Ex.ind
  intro k s v l ih e' u u' w hr hr'
  obtain ⟨k', s', v', l'⟩ := e'
  obtain ⟨A, c, rfl, hc1, hc2⟩ := hr.toL.form
  obtain ⟨A', c', rfl, hc1', hc2'⟩ := hr'.toL.form
  have hl : ExL w (fun _ => True) (.slice A l.length c) l := hr.toL
  have hl' : ExL w (fun _ => True) (.slice A' l'.length c') l' := hr'.toL
  have hc1 : l.length ≤ c := hc1
  unfold maxLen at hc2
  show Calls Tryz.prog 14 #[.agg #[.int .i64 k, .string (str s), .int .i64 v.kind, .int .i64 v.n, .string (str v.s), .slice A l.length c], .agg #[.int .i64 k', .string (str s'), .int .i64 v'.kind, .int .i64 v'.n, .string (str v'.s), .slice A' l'.length c']] w (BoolP (sameE (.mk k s v l) (.mk k' s' v' l')) w)
  obtain ⟨X, hX⟩ : ∃ X, X = sameE (.mk k s v l) (.mk k' s' v' l') := ⟨_, rfl⟩
  rw [← hX]
  rw [sameE] at hX
  have hA := (Same.refl (fun _ => True) w).alloc (.cells #[.int .i64 k, .string (str s), .int .i64 v.kind, .int .i64 v.n, .string (str v.s), .slice A l.length c] 34)
  have hA' := (Same.refl (fun _ => True) (w.alloc (.cells #[.int .i64 k, .string (str s), .int .i64 v.kind, .int .i64 v.n, .string (str v.s), .slice A l.length c] 34))).alloc (.cells #[.int .i64 k', .string (str s'), .int .i64 v'.kind, .int .i64 v'.n, .string (str v'.s), .slice A' l'.length c'] 34)
  have hrow := (Row.new w 34 [.int .i64 k, .string (str s), .int .i64 v.kind, .int .i64 v.n, .string (str v.s), .slice A l.length c]).keep hA' trivial
  have hrow' := Row.new (w.alloc (.cells #[.int .i64 k, .string (str s), .int .i64 v.kind, .int .i64 v.n, .string (str v.s), .slice A l.length c] 34)) 34 [.int .i64 k', .string (str s'), .int .i64 v'.kind, .int .i64 v'.n, .string (str v'.s), .slice A' l'.length c']
  have hz : (w.alloc (.cells #[.int .i64 k, .string (str s), .int .i64 v.kind, .int .i64 v.n, .string (str v.s), .slice A l.length c] 34)).heap.size = w.heap.size + 1 := by simp
  rw [hz] at hrow'
  have hs := hA.trans hA'
  have hl1 := hl.keepAll hs
  have hl1' := hl'.keepAll hs
  have HX := Lib.hid hX
  clear hX hr hr' hl hl' hz hA hA'
  go_enter Tryz.func14, Tryz.ntmps14
  go_upto_region 1 with (fail)
  revert hrow hrow' hs hl1 hl1'
  generalize (w.alloc _).alloc _ = w1
  intro hrow hrow' hs hl1 hl1'
  have HL := Lib.hid hl1
  have HL' := Lib.hid hl1'
  have HS := Lib.hid hs
  generalize w.heap.size = g at *
  have c0 := hrow.cell 0
  have c1 := hrow.cell 1
  have c2 := hrow.cell 2
  have c3 := hrow.cell 3
  have c4 := hrow.cell 4
  have c5 := hrow.cell 5
  simp only [List.getElem?_cons_zero, List.getElem?_cons_succ] at c0 c1 c2 c3 c4 c5
  have g0 := hrow'.cell 0
  have g1 := hrow'.cell 1
  have g2 := hrow'.cell 2
  have g3 := hrow'.cell 3
  have g4 := hrow'.cell 4
  have g5 := hrow'.cell 5
  simp only [List.getElem?_cons_zero, List.getElem?_cons_succ] at g0 g1 g2 g3 g4 g5
  clear hs hl1 hl1' hrow hrow'
  by_cases h0 : k = k'
  · have e0 := ne_f h0
    by_cases h1 : s = s'
    · have e1 := str_ne_f h1
      by_cases h2 : v = v'
      · have hez : ∀ w, (binOp .neq 31 (.agg #[.int .i64 v.kind, .int .i64 v.n, .string (str v.s)]) (.agg #[.int .i64 v'.kind, .int .i64 v'.n, .string (str v'.s)])).run Tryz.prog w = .ok (.bool false) w := fun w => by
          have := neV v v' w
          rw [decide_eq_true h2] at this
          exact this
        by_cases h3 : l.length = l'.length
        · have HLE := Lib.hid h3
          have e3 : ((l.length : Int) != (l'.length : Int)) = false := ne_f (by omega)
          have HB : Hid (X = sameEs l l') := Lib.hid (by rw [HX.out, decide_eq_true h0, decide_eq_true h1, decide_eq_true h2]; simp)
          clear h0 h2 h3
          have h1 : s' = s := h1.symm
          subst h1
          go_wp2
          go_loopw [5] (fun i wr => ∃ q : Nat, i = .int .i64 (q : Int) ∧ q ≤ l.length ∧ X = sameEs (l.drop q) (l'.drop q) ∧ Same (fun _ => True) w1 wr) (fun i _ => l.length - (intOf i).toNat)
          case atStart => exact ⟨0, rfl, Nat.zero_le _, HB.out, Same.refl _ _⟩
          case round =>
            obtain ⟨q, rfl, hq, hx, hS⟩ := hrel
            have x1 : (0 : Int) ≤ (q : Int) := by omega
            have HS2 := Lib.hid hS
            have HL2 := Lib.hid (HL.out.keepAll hS)
            have HL2' := Lib.hid (HL'.out.keepAll hS)
            have k5 := hS.cell (p := ⟨g, 5, none⟩) trivial c5
            have j5 := hS.cell (p := ⟨g + 1, 5, none⟩) trivial g5
            clear hS
            by_cases hql : q < l.length
            · have hql' : q < l'.length := by rw [← HLE.out]; exact hql
              have x2 : (q : Int) < (l.length : Int) := by omega
              have x3 : (q : Int) < (l'.length : Int) := by omega
              obtain ⟨ad, uq, rfl, -, hlq, d0, d1, d2, d3, d4, d5⟩ := ExL.cells HL2.out hql
              obtain ⟨Aq, cq, rfl, -, -⟩ := hlq.form
              obtain ⟨ad', uq', rfl, -, hlq', b0, b1, b2, b3, b4, b5⟩ := ExL.cells HL2'.out hql'
              obtain ⟨Aq', cq', rfl, -, -⟩ := hlq'.form
              have HE := Lib.hid ((ExR.iff _ l[q]).2 hlq)
              have HE' := Lib.hid ((ExR.iff _ l'[q]).2 hlq')
              rw [sameEs_drop hql hql'] at hx
              have HXq := Lib.hid hx
              have hmem : l[q] ∈ l := List.getElem_mem hql
              have HI := Lib.hid (ih l[q] hmem l'[q])
              clear hlq hlq' hx hmem ih
              go_wp2
              go_still_tail 10, (by kernel_rfl)
              change wpList _ _ _ _ _ wr.drew
              have hdw : Same (fun _ => True) wr wr.drew := (Same.refl _ _).drew
              have HE := Lib.hid (HE.out.keepAll hdw)
              have HE' := Lib.hid (HE'.out.keepAll hdw)
              have HS2 := Lib.hid (HS2.out.trans hdw)
              clear hdw d0 d1 d2 d3 d4 d5 b0 b1 b2 b3 b4 b5 k5 j5
              generalize wr.drew = w5 at *
              go_wp2_with (go_at_call 14; refine stopAt ?_)
              unfold Hid
              refine (show Calls _ _ _ _ _ from HI.out (.slice Aq l[q].args.length cq) (.slice Aq' l'[q].args.length cq') _ HE.out HE'.out).mono ?_
              rintro e w6 ⟨rfl, hS⟩
              have HS6 := Lib.hid (HS2.out.trans hS)
              clear hS
              cases hb : sameE l[q] l'[q]
              · have HB : Hid (false = X) := Lib.hid (by rw [HXq.out, hb]; rfl)
                clear hb
                go_wp2
                go_ret
                exact ⟨ret_bool HB.out, HS.out.trans HS6.out⟩
              · have HB : Hid (X = sameEs (l.drop (q + 1)) (l'.drop (q + 1))) := Lib.hid (by rw [HXq.out, hb]; rfl)
                clear hb
                go_wp2
                go_roundw
                case rel => exact ⟨q + 1, by go_num, by omega, HB.out, HS6.out⟩
                case measure => simp [intOf]; omega
            · obtain rfl : q = l.length := by omega
              have HB2 : Hid (true = X) := Lib.hid (by rw [hx, List.drop_eq_nil_of_le (Nat.le_refl _), List.drop_eq_nil_of_le (by rw [HLE.out]; exact Nat.le_refl _)]; rfl)
              clear hx
              go_wp2
              go_ret
              exact ⟨ret_bool HB2.out, HS.out.trans HS2.out⟩
        · have e3 : ((l.length : Int) != (l'.length : Int)) = true := ne_t (by omega)
          have HB : Hid (false = X) := Lib.hid (by rw [HX.out, sameEs_len h3]; simp)
          clear h0 h2 h3
          have h1 : s' = s := h1.symm
          subst h1
          go_wp2
          go_ret
          exact ⟨ret_bool HB.out, HS.out⟩
      · have hez : ∀ w, (binOp .neq 31 (.agg #[.int .i64 v.kind, .int .i64 v.n, .string (str v.s)]) (.agg #[.int .i64 v'.kind, .int .i64 v'.n, .string (str v'.s)])).run Tryz.prog w = .ok (.bool true) w := fun w => by
          have := neV v v' w
          rw [decide_eq_false h2] at this
          exact this
        have HB : Hid (false = X) := Lib.hid (by rw [HX.out, decide_eq_false h2]; simp)
        clear h0 h2
        have h1 : s' = s := h1.symm
        subst h1
        go_wp2
        go_ret
        exact ⟨ret_bool HB.out, HS.out⟩
    · have e1 := str_ne_t h1
      have HB : Hid (false = X) := Lib.hid (by rw [HX.out, decide_eq_false h1]; simp)
      clear h0
      go_wp2
      go_ret
      exact ⟨ret_bool HB.out, HS.out⟩
  · have e0 := ne_t h0
    have HB : Hid (false = X) := Lib.hid (by rw [HX.out, decide_eq_false h0]; simp)
    clear h0
    go_wp2
    go_ret
    exact ⟨ret_bool HB.out, HS.out⟩
theorem ExL.fresh {w : World} (us : List Value) (l : List Ex) (hu : us.length = l.length) (he : ∀ (i : Nat) (u : Value) (e : Ex), us[i]? = some u → l[i]? = some e → ExR w (fun _ => True) u e) (hm : l.length ≤ maxLen) :
    ExL (w.alloc (.cells ((us.zip l).flatMap fun p => exCs p.1 p.2).toArray 34)) (fun _ => True) (.slice (some ⟨w.heap.size, 0, none⟩) l.length l.length) l := by
  have hfl : ((us.zip l).flatMap fun p => exCs p.1 p.2).length = l.length * 6 := by
    rw [flat_len (fun p : Value × Ex => exCs p.1 p.2) 6 (fun _ => rfl)]; simp [hu]
  have h := (Row.new w 34 ((us.zip l).flatMap fun p => exCs p.1 p.2)).sl (size := 6) (off := 0) (n := l.length) (by rw [hfl]; omega)
  rw [List.drop_zero, List.take_of_length_le (by rw [hfl]; omega)] at h
  exact ⟨us, _, _, rfl, hu, Nat.le_refl _, hm, h.mono (fun _ _ _ => trivial), fun i u e h1 h2 => (he i u e h1 h2).keepAll ((Same.refl _ _).alloc _)⟩
theorem ExL.fresh1 {u : Value} {e : Ex} (w : World) (h : ExR w (fun _ => True) u e) : ExL (w.alloc (.cells (exCs u e).toArray 34)) (fun _ => True) (.slice (some ⟨w.heap.size, 0, none⟩) 1 1) [e] := by
  have := ExL.fresh (w := w) [u] [e] rfl (fun i u' e' h1 h2 => by
    match i with
    | 0 => simp at h1 h2; subst h1 h2; exact h
    | i + 1 => simp at h1) (by simp [maxLen])
  simpa using this
theorem ExL.fresh2 {u v : Value} {e f : Ex} (w : World) (h : ExR w (fun _ => True) u e) (k : ExR w (fun _ => True) v f) : ExL (w.alloc (.cells (exCs u e ++ exCs v f).toArray 34)) (fun _ => True) (.slice (some ⟨w.heap.size, 0, none⟩) 2 2) [e, f] := by
  have := ExL.fresh (w := w) [u, v] [e, f] rfl (fun i u' e' h1 h2 => by
    match i with
    | 0 => simp at h1 h2; subst h1 h2; exact h
    | 1 => simp at h1 h2; subst h1 h2; exact k
    | i + 2 => simp at h1) (by simp [maxLen])
  simpa using this
theorem delI {e : Ex} (h : ExI e) : LotI (delL e) :=
  ⟨show i64B 0 = true by decide, fun s hs => by
    obtain rfl : s = delS e := by simpa [delL] using hs
    exact ⟨fun x hx => (by cases hx), fun x hx => (by cases hx), fun x hx => (by cases hx), h, show i64B 0 = true by decide⟩⟩
theorem whr_ok (e : Ex) (h : (printF (delL e)).2 = 0) : mayE e 16 = true ∧ (printF (delL e)).1 = headD ++ showE e := by
  unfold printF at h ⊢
  by_cases hm : mayLot (delL e) = true ∧ (lotT (delL e)).length ≤ 2000
  · rw [if_pos hm]
    exact ⟨(may_del e).symm.trans hm.1, lotT_del e⟩
  · rw [if_neg hm] at h
    cases h
set_option maxRecDepth 100000 in
set_option maxHeartbeats 4000000 in
theorem whr_any (e : Ex) (u : Value) (w : World) (hI : ExI e) (h : ExR w (fun _ => True) u e) (hE : EnvT w) : Calls Tryz.prog 12 #[exV u e] w (PrintP (printF (delL e)) w) := by
  obtain ⟨A, c, rfl, -, -⟩ := h.toL.form
  have hA := (Same.refl (fun _ => True) w).alloc (.cells #[.int .i64 e.kind, .string (str e.s), .int .i64 e.v.kind, .int .i64 e.v.n, .string (str e.v.s), .slice A e.args.length c] 34)
  have hrow := Row.new w 34 [.int .i64 e.kind, .string (str e.s), .int .i64 e.v.kind, .int .i64 e.v.n, .string (str e.v.s), .slice A e.args.length c]
  have hx := h.keepAll hA
  have he := hE.keepAll hA
  clear h hE
  go_enter Tryz.func12, Tryz.ntmps12
  go_upto_region 1 with (fail)
  revert hA hrow hx he
  generalize w.alloc _ = w1
  intro hA hrow hx he
  have HS := Lib.hid hA
  have HX := Lib.hid hx
  have HE := Lib.hid he
  have c0 := hrow.cell 0
  have c1 := hrow.cell 1
  have c2 := hrow.cell 2
  have c3 := hrow.cell 3
  have c4 := hrow.cell 4
  have c5 := hrow.cell 5
  simp only [List.getElem?_cons_zero, List.getElem?_cons_succ] at c0 c1 c2 c3 c4 c5
  clear hA hrow hx he
  have hst : StR w1 (fun q => 0 ≤ q) ⟨.slice none 0 0, .slice none 0 0, .slice none 0 0, .slice A e.args.length c⟩ (delS e) := ⟨LsR.nil _ _, LsR.nil _ _, LsR.nil _ _, ExR.mono HX.out fun _ _ _ => Nat.zero_le _⟩
  have hown := OwnL.one (e := 44) (fun x => stCsP_len x) stK hst (Nat.zero_le _)
  have hls : LsR stCsP 15 StR (w1.alloc (.cells (stCsP (⟨.slice none 0 0, .slice none 0 0, .slice none 0 0, .slice A e.args.length c⟩, delS e)).toArray 44)) (fun _ => True) (.slice (some ⟨w1.heap.size, 0, none⟩) 1 1) [delS e] := LsR.mono stK (by omega) (hown.ls stK stCsP_len) (fun _ _ _ => trivial)
  have hB := (Same.refl (fun _ => True) w1).alloc (.cells (stCsP (⟨.slice none 0 0, .slice none 0 0, .slice none 0 0, .slice A e.args.length c⟩, delS e)).toArray 44)
  have HP := Lib.hid (print_any (delL e) _ _ (delI hI) hls (HE.out.keepAll hB))
  have HB := Lib.hid hB
  clear hst hown hls hB
  generalize printF (delL e) = r at *
  go_wp2_with (go_at_call 16; refine stopAt ?_)
  unfold Hid
  refine (show Calls _ _ _ _ _ from HP.out).mono ?_
  rintro e' w2 ⟨rfl, hS⟩
  have HS := Lib.hid (HS.out.trans (HB.out.trans hS))
  clear hS
  go_wp2
  go_ret2
  exact ⟨rfl, HS.out⟩
end Go.Proofs.YtdfojghhpdkpfaaGreatDoor
namespace Go.Proofs.YtdfojghhpdkpfaaGreatDoor
open Go.RowKit Go.ChangeShapes Go.WideShapes Go.ChangeAt
set_option maxRecDepth 100000 in
set_option maxHeartbeats 1000000 in
theorem ls_opens {H : Type} {enc : TypeId × Value → H} {W : World} {α β : Type} {cs : β × α → List Value} {n : Nat} (hn : 0 < n) (hlen : ∀ p, (cs p).length = n) {ts te : TypeId} (hu : Tryz.prog.underlying ts = some (.slice te))
    (hce : Tryz.prog.cellsOf te = n) {ok : World → (Nat → Prop) → β → α → Prop} {Q : α → Prop} {fuel : Nat} {v : Value} {x : DataW H × List MemPlace}
    (hop : ∀ m, m < fuel → ∀ (ws : List Value) (y : DataW H × List MemPlace), DataW.trod enc Tryz.prog W 0 (fun _ => true) true m te ws = some y → ∃ u a, ws = cs (u, a) ∧ ok W (· < W.heap.size) u a ∧ Q a)
    (h : DataW.trod enc Tryz.prog W 0 (fun _ => true) true fuel ts [v] = some x) : ∃ l, LsR cs n ok W (· < W.heap.size) v l ∧ ∀ a ∈ l, Q a := by
  rcases DataW.trod_slice hu h with ⟨h0, -⟩ | ⟨a, len, cap, elems, rest, n', rfl, h0, -, -, hl, hm, hel, heach, -, -⟩
  · simp only [List.cons.injEq, and_true] at h0
    subst h0
    exact ⟨[], LsR.nil W _, fun a ha => by cases ha⟩
  · simp only [List.cons.injEq, and_true] at h0
    subst h0
    have each : ∀ i, i < len → ∃ p : β × α, (∀ j y, (cs p)[j]? = some y → W.cell? (a.add (i * n + j)) = some y) ∧ ok W (· < W.heap.size) p.1 p.2 ∧ Q p.2 := by
      intro i hi
      have hb := heach i hi
      rw [List.getElem?_eq_getElem (by omega), hce] at hb
      obtain ⟨cs', hcs, htr⟩ := Option.bind_eq_some_iff.1 hb
      obtain ⟨u, e, rfl, hr, hi'⟩ := hop n' (by omega) cs' _ htr
      obtain ⟨_, hlen', hat⟩ := World.cells?_some hcs
      refine ⟨(u, e), fun j y hy => ?_, hr, hi'⟩
      have hj : j < n := by
        have := (List.getElem?_eq_some_iff.1 hy).1
        rwa [hlen] at this
      rw [← add_of_add, hat j hj]
      exact hy
    rcases Nat.eq_zero_or_pos len with h0 | h0
    · subst h0
      exact ⟨[], ⟨[], rfl, ⟨some a, cap, rfl, by simp, hm, by simpa using Sl.nil W _ n (some a)⟩, fun i u e h => by simp at h⟩, fun a ha => by cases ha⟩
    obtain ⟨p0, hp0⟩ := each 0 h0
    haveI : Inhabited (β × α) := ⟨p0⟩
    obtain ⟨F, hF⟩ := Go.Deep.choose_lt each
    have hab : a.block < W.heap.size := by
      have hl0 : 0 < (cs (F 0)).length := by rw [hlen]; exact hn
      have := World.block_lt_of_cell? W _ ((hF 0 h0).1 0 _ (List.getElem?_eq_getElem hl0))
      rwa [block_of_add] at this
    obtain ⟨us, hus⟩ : ∃ us, us = (List.range len).map fun i => (F i).1 := ⟨_, rfl⟩
    obtain ⟨l, hll⟩ : ∃ l, l = (List.range len).map fun i => (F i).2 := ⟨_, rfl⟩
    have hul : us.length = len := by rw [hus]; simp
    have hl' : l.length = len := by rw [hll]; simp
    have hz : (us.zip l).length = len := by simp [hul, hl']
    have hget : ∀ i (h : i < len), us[i]? = some (F i).1 ∧ l[i]? = some (F i).2 := fun i h => by rw [hus, hll]; simp [h]
    have hfl : ((us.zip l).flatMap cs).length = len * n := by rw [flat_len cs n hlen, hz]
    refine ⟨l, ⟨us, by omega, ⟨some a, cap, by rw [hz], by omega, hm, ⟨by rw [hfl, hz], fun _ => ⟨a, rfl, hab, fun j y hy => ?_⟩⟩⟩, fun i u e h1 h2 => ?_⟩, fun b hb => ?_⟩
    · have hj : j < len * n := by
        have := (List.getElem?_eq_some_iff.1 hy).1
        rwa [hfl] at this
      have hi : j / n < len := (Nat.div_lt_iff_lt_mul hn).2 hj
      have hjd : j / n * n + j % n = j := Nat.div_add_mod' j n
      have e3 := flat_at cs n hlen (us.zip l) (j / n) (j % n) (by omega) (Nat.mod_lt _ hn)
      rw [hjd, hy] at e3
      have e4 : (us.zip l)[j / n]'(by omega) = F (j / n) := by
        have h1 := (hget (j / n) hi).1
        have h2 := (hget (j / n) hi).2
        rw [List.getElem?_eq_getElem (by omega)] at h1 h2
        injection h1 with h1
        injection h2 with h2
        rw [List.getElem_zip, h1, h2]
      rw [e4] at e3
      have := (hF (j / n) hi).1 (j % n) y e3.symm
      rwa [hjd] at this
    · have hi : i < len := by
        have := (List.getElem?_eq_some_iff.1 h1).1
        omega
      obtain ⟨g1, g2⟩ := hget i hi
      have h1 : (F i).1 = u := Option.some.inj (g1.symm.trans h1)
      have h2 : (F i).2 = e := Option.some.inj (g2.symm.trans h2)
      rw [← h1, ← h2]
      exact (hF i hi).2.1
    · obtain ⟨i, hi, rfl⟩ := List.mem_iff_getElem.1 hb
      have hi' : i < len := by omega
      have h2 := (hget i hi').2
      rw [List.getElem?_eq_getElem hi] at h2
      injection h2 with h2
      rw [h2]
      exact (hF i hi').2.2
def cI : Codec Tryz.prog 3 Int := cInt .i64 Tryz.underlying3 (by kernel_rfl)
def cJ : Codec Tryz.prog 2 Int := cInt .i64 Tryz.underlying2 (by kernel_rfl)
def cS : Codec Tryz.prog 9 (List UInt8) := cStr Tryz.underlying9 (by kernel_rfl)
set_option maxRecDepth 100000 in
def cVal : Codec Tryz.prog 31 Val :=
  cStruct (fcons 0 1 cI (fcons 1 1 cJ (fcons 2 1 cS fnil))) (fun x => ⟨x.1, x.2.1, x.2.2.1⟩) Tryz.underlying31
theorem wf_i64B {n : Int} (h : (Lit.int .i64 n).wf = true) : i64B n = true := by
  have := i64_of_wf h
  simpa [i64B] using this
theorem cVal_ok {w : World} {S : Nat → Prop} {vs : List Value} {t : Val} (h : cVal.ok w S vs t) : vs = valCs t ∧ i64B t.n = true ∧ t.s.length ≤ maxLen := by
  obtain ⟨hlen, ⟨x0, x1, x2, x3⟩, hx, ⟨h0, k0⟩, ⟨h1, k1⟩, ⟨h2, k2⟩, -⟩ := h
  have hlen : vs.length = 3 := hlen.trans (by kernel_rfl)
  match vs, hlen with
  | [a0, a1, a2], _ =>
    obtain rfl := (List.cons.inj h0).1
    obtain rfl := (List.cons.inj h1).1
    obtain rfl := (List.cons.inj h2).1
    subst hx
    exact ⟨rfl, wf_i64B k1, k2⟩
theorem agg_of {v : Value} {l : List Value} (h : v.cells.toList = l) (hl : 2 ≤ l.length) : v = .agg l.toArray := by
  cases v <;> first
    | (simp [Value.cells] at h; subst h; simp at hl; done)
    | (simp [Value.cells] at h; subst h; simp)
section
variable {H : Type} {enc : TypeId × Value → H} {W : World}
theorem ExR.mk_ {W : World} {S : Nat → Prop} {k : Int} {s : List UInt8} {v : Val} {u : Value} {l : List Ex} (h : LsR exCsP 6 ExR W S u l) : ExR W S u (.mk k s v l) := by
  obtain ⟨us, h1, ⟨A, c, rfl, h3, h4, h5⟩, h6⟩ := h
  have hz : (us.zip l).length = l.length := by simp [h1]
  rw [hz] at h3 h5 ⊢
  exact .mk k s v l us A c h1 h3 h4 h5 h6
set_option maxRecDepth 100000 in
theorem ex_opens : ∀ (fuel : Nat) (cs : List Value) (x : DataW H × List MemPlace), DataW.trod enc Tryz.prog W 0 (fun _ => true) true fuel 34 cs = some x → ∃ u e, cs = exCs u e ∧ ExR W (· < W.heap.size) u e ∧ ExI e := by
  intro fuel
  induction fuel using Nat.strongRecOn with
  | ind fuel ih =>
  intro cs x h
  obtain ⟨xs, n, hn, _, hlen, hxl, hf⟩ := DataW.trod_struct Tryz.underlying34 h
  have hlen : cs.length = 6 := hlen.trans (by kernel_rfl)
  have hxl : xs.length = 4 := hxl
  match cs, hlen with
  | [a0, a1, a2, a3, a4, a5], _ =>
  have f0 := hf 0 _ rfl
  have f1 := hf 1 _ rfl
  have f2 := hf 2 _ rfl
  have f3 := hf 3 _ rfl
  rw [List.getElem?_eq_getElem (by omega)] at f0 f1 f2 f3
  have f0 : DataW.trod enc Tryz.prog W 0 (fun _ => true) true n 3 [a0] = some xs[0] := f0
  have f1 : DataW.trod enc Tryz.prog W 0 (fun _ => true) true n 9 [a1] = some xs[1] := f1
  have f2 : DataW.trod enc Tryz.prog W 0 (fun _ => true) true n 31 [a2, a3, a4] = some xs[2] := f2
  have f3 : DataW.trod enc Tryz.prog W 0 (fun _ => true) true n 32 [a5] = some xs[3] := f3
  obtain ⟨k, hk, -⟩ := cI.opens f0
  obtain ⟨s, hs, -⟩ := cS.opens f1
  obtain ⟨v, hv⟩ := cVal.opens f2
  obtain ⟨hv, hvi, -⟩ := cVal_ok hv
  simp only [valCs, List.cons.injEq, and_true] at hk hs hv
  obtain ⟨rfl, rfl, rfl⟩ := hv
  subst hk hs
  obtain ⟨l, hl, hq⟩ := ls_opens (cs := exCsP) (n := 6) (ok := ExR) (Q := ExI) (by omega) (fun _ => rfl) Tryz.underlying32 (by kernel_rfl) (fun m hm ws y hy => ih m (by omega) ws y hy) f3
  exact ⟨a5, .mk k s v l, rfl, ExR.mk_ hl, .mk hvi hq⟩
end
end Go.Proofs.YtdfojghhpdkpfaaGreatDoor
