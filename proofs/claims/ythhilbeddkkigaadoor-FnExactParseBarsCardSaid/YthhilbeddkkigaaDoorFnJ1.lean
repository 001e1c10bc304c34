/- ParseBars: the library's Split, Cut and ParseInt, seen in the plain view. No condition. ParseBars, the plain law: what the two readings of a text accept is exactly the text of bars. No condition. ParseBars in the program. No condition. ParseBars in the reference. No condition. ParseBars: the reference's reading; the law. No condition. ParseBars: the law; package variables taken into the view; the wrap that keeps the world's shape. No condition. -/
import Derived.Test.YthhilbeddkkigaaDoorFnG2
import Derived.Test.YthhilbeddkkigaaDoorShelf2
import Derived.Lib.SplitLaws
import Derived.Test.YthhilbeddkkigaaDoorPlJ
import Derived.Test.YthhilbeddkkigaaDoorFnZ4
import Derived.Test.YthhilbeddkkigaaDoorFnZ5
import Derived.Handed
import Derived.LaidLaws
import Derived.Shelf.Vars
set_option linter.unusedVariables false
set_option linter.unusedSimpArgs false
namespace Go.Gl
open Go.Proofs Go.Proofs.YthhilbeddkkigaaDoor Go.Pl Go.RowKit

/-- the package variables that the library reads: MaxLen, ErrSyntax, ErrRange -/
structure Glb (h : AH) (b0 b1 b2 : Nat) : Prop where
  m0 : look h b0 = some ⟨[vGlb b0 0 0], none⟩
  m1 : look h b1 = some ⟨[vGlb b1 1 1], none⟩
  m2 : look h b2 = some ⟨[vGlb b2 2 1], none⟩
theorem Glb.le {h h' : AH} {b0 b1 b2 : Nat} (g : Glb h b0 b1 b2) (l : Le h h') : Glb h' b0 b1 b2 := ⟨l.at_ _ _ g.m0, l.at_ _ _ g.m1, l.at_ _ _ g.m2⟩
theorem GK.int {u : Value} (h : GK 0 u) : ∃ m, u = .int .i64 m := by
  rcases h with ⟨_, h⟩ | ⟨h, _⟩
  · exact h
  · cases h
theorem GK.err {u : Value} (h : GK 1 u) : u = .nilIface ∨ ∃ t v, u = .iface t v := by
  rcases h with ⟨h, _⟩ | ⟨_, h | ⟨t, v, h, _⟩⟩
  · cases h
  · exact .inl h
  · exact .inr ⟨t, v, h⟩
/-- a function of the library that hands back what a plain value stands for -/
theorem ACalls.lib2 {P : Program} {h : AH} {f : FuncId} {fn : Func} {c : Code} {args : List Value} {r : Value} (hf : P.funcs[f]? = some fn) (hb : fn.body = some c) (hname : (fn.name == "runtime.NumGoroutine") = false)
    (hc : ∀ ι w cargs, HR ι h w → cargs.size = args.length → (∀ (i : Nat) v, args[i]? = some v → ∃ u, cargs[i]? = some u ∧ VR ι h.length v u) → Calls P f cargs w fun e w' => ∃ u, e = .returned u ∧ VR ι h.length r u ∧ Below w.heap.size w w') : ACalls P f args h (fun r' h' => r' = r ∧ h' = h) := by
  refine ⟨fun xs w => ?_, fun ι w cargs hr' hs ha => (hc ι w cargs hr' hs ha).mono fun e w' ⟨u, e1, e2, e3⟩ => ⟨r, u, h, ι, e1, ⟨rfl, rfl⟩, e2, CRel.below hr' e3⟩⟩
  have h1 : fn.name ≠ "runtime.NumGoroutine" := by simpa using hname
  simp [callFunc, hf, h1, hb, mark]
theorem VR.pair {ι : Nat → Io} {n : Nat} {a b x y : Value} (h1 : VR ι n a x) (h2 : VR ι n b y) : VR ι n (.tuple #[a, b]) (.tuple #[x, y]) := .tuple _ _ rfl fun i hi => by
  match i, hi with
  | 0, _ => exact h1
  | 1, _ => exact h2

theorem split_c (h : AH) (b0 b1 b2 : Nat) (G : Glb h b0 b1 b2) (s : ByteArray) (c : UInt8) (hs : s.size ≤ 1048576) : ACalls Tryd.prog 15 [.string s, .string ⟨#[c]⟩] h (fun r h' => ∃ b, r = .slice (some ⟨b, 0, none⟩) ((Lib.splitB ⟨#[c]⟩ 0 (Lib.countB s ⟨#[c]⟩) s).map Value.string).length 1 ∧ look h' b = some ⟨(Lib.splitB ⟨#[c]⟩ 0 (Lib.countB s ⟨#[c]⟩) s).map Value.string, some (9, 1)⟩ ∧ h.length ≤ b ∧ Le h h') := by
  have hl : ((Lib.splitB ⟨#[c]⟩ 0 (Lib.countB s ⟨#[c]⟩) s).map Value.string).length = Lib.countB s ⟨#[c]⟩ + 1 := by rw [List.length_map, Lib.splitB_all ⟨#[c]⟩ (Nat.le_refl 1) 0 _ s rfl]
  have hcl := Lib.countB_le ⟨#[c]⟩ (Nat.le_refl 1) s.size s (Nat.le_refl _)
  refine ACalls.libRow Tryd.func15 rfl (by kernel_rfl) (by simp [plainV]) (by rw [hl]; simp only [maxLen]; omega) fun ι w cargs hr hs2 ha => ?_
  rw [plain_args rfl hs2 ha]
  obtain ⟨u, hu, hk⟩ := hr.globAt G.m0
  obtain ⟨m, rfl⟩ := hk.int
  refine (Tryd.strings_Split s ⟨#[c]⟩ m w (by omega) hu (Nat.le_refl 1)).mono fun e w' ⟨e1, e2⟩ => ⟨?_, e2⟩
  rw [e1, hl]

theorem cut_c (h : AH) (b0 b1 b2 : Nat) (G : Glb h b0 b1 b2) (s : ByteArray) (c : UInt8) (hs : s.size ≤ 1048576) : ACalls Tryd.prog 16 [.string s, .string ⟨#[c]⟩] h (fun r h' => r = .tuple #[.string ⟨(Lib.cut s.data.toList [c]).1.toArray⟩, .string ⟨(Lib.cut s.data.toList [c]).2.1.toArray⟩, .bool (Lib.cut s.data.toList [c]).2.2] ∧ h' = h) := by
  refine ACalls.lib Tryd.func16 rfl (by kernel_rfl) (fun ι n => .tuple _ _ rfl fun i hi => by
    match i, hi with
    | 0, _ => exact .string _
    | 1, _ => exact .string _
    | 2, _ => exact .bool _) fun ι w cargs hr hs2 ha => ?_
  rw [plain_args rfl hs2 ha]
  obtain ⟨u, hu, hk⟩ := hr.globAt G.m0
  obtain ⟨m, rfl⟩ := hk.int
  refine (Tryd.strings_Cut s ⟨#[c]⟩ m w (by omega) hu).mono fun e w' ⟨e1, n, e2⟩ => ⟨e1, ?_⟩
  rw [e2]
  exact ⟨rfl, rfl, rfl, Nat.le_refl _, fun _ _ => rfl⟩
/-- what ParseInt hands back -/
def parsed (l : List UInt8) : Int × Value := match Lib.parseIntB 64 l with
  | .ok v => (v, .nilIface)
  | .range => (Lib.intSat 64 l, vErr)
  | _ => (0, vErr)

theorem parseInt_c (h : AH) (b0 b1 b2 : Nat) (G : Glb h b0 b1 b2) (s : ByteArray) (hs : s.size ≤ 1048576) : ACalls Tryd.prog 17 [.string s, .int .i64 10, .int .i64 64] h (fun r h' => r = .tuple #[.int .i64 (parsed s.data.toList).1, (parsed s.data.toList).2] ∧ h' = h) := by
  refine ACalls.lib2 Tryd.func17 rfl (by kernel_rfl) fun ι w cargs hr hs2 ha => ?_
  rw [plain_args rfl hs2 ha]
  unfold parsed
  cases hp : Lib.parseIntB 64 s.data.toList with
  | ok v =>
    refine (Tryd.strconv_ParseInt_10_at64_ok s (by omega) v hp w).mono fun e w' ⟨e1, e2⟩ => ⟨_, e1, VR.pair (.int _ _) .nilIface, ?_⟩
    rcases e2 with rfl | ⟨t, rfl⟩
    · exact Below.refl _ _
    · exact Lib.bytesWorld_below _ _ _
  | range =>
    obtain ⟨u, hu, hk⟩ := hr.globAt G.m2
    exact (Tryd.strconv_ParseInt_10_at64_range s (by omega) hp u w hu hk.err).mono fun e w' ⟨N, e1, _, _, e2⟩ => ⟨_, e1, VR.pair (.int _ _) (.err _ _ fun a ha => by cases ha), e2⟩
  | _ =>
    obtain ⟨u, hu, hk⟩ := hr.globAt G.m1
    exact (Tryd.strconv_ParseInt_10_at64_syntax s (by omega) hp u w hu hk.err).mono fun e w' ⟨N, e1, _, _, e2⟩ => ⟨_, e1, VR.pair (.int _ _) (.err _ _ fun a ha => by cases ha), e2⟩

end Go.Gl

set_option linter.unusedVariables false
set_option linter.unusedSimpArgs false
namespace Go.Gl
open Go.Proofs Go.Proofs.YthhilbeddkkigaaDoor Go.Pl Go.RowKit

/-! ### digits -/
theorem dg_not {n : Int} (h0 : 0 ≤ n) (h1 : n ≤ 9) {c : UInt8} (hc : c.toNat < 48 ∨ 57 < c.toNat) : c ∉ dgL n := by
  intro hm
  have e : c = UInt8.ofNat (48 + n.toNat) := by simpa [dgL] using hm
  have e2 := congrArg UInt8.toNat e
  rw [UInt8.toNat_ofNat'] at e2
  omega
/-- what ParseInt says of a text: whether it is a number -/
def pOk (l : List UInt8) : Bool := match Lib.parseIntB 64 l with | .ok _ => true | _ => false
def errV : Bool → Value
  | true => .nilIface
  | false => vErr
theorem parsed_err (l : List UInt8) : (parsed l).2 = errV (pOk l) := by
  unfold parsed pOk
  cases Lib.parseIntB 64 l <;> rfl
theorem parse_dg {n : Int} (h0 : 0 ≤ n) (h1 : n ≤ 9) : Lib.parseIntB 64 (dgL n) = .ok n := by
  obtain ⟨k, rfl⟩ := Int.eq_ofNat_of_zero_le h0
  have hk : k ≤ 9 := by omega
  have : ∀ k, k < 10 → Lib.parseIntB 64 (dgL (k : Nat)) = .ok (k : Int) := by
    intro k hk
    match k, hk with
    | 0, _ | 1, _ | 2, _ | 3, _ | 4, _ | 5, _ | 6, _ | 7, _ | 8, _ | 9, _ => decide
  exact this k (by omega)
theorem pOk_dg {n : Int} (h0 : 0 ≤ n) (h1 : n ≤ 9) : pOk (dgL n) = true := by unfold pOk; rw [parse_dg h0 h1]
theorem parsed_dg {n : Int} (h0 : 0 ≤ n) (h1 : n ≤ 9) : (parsed (dgL n)).1 = n := by unfold parsed; rw [parse_dg h0 h1]
/-- the strict reading of a number -/
def numA (n : Int) : List UInt8 → Int
  | [] => n
  | b :: l => if b.toNat < 48 ∨ 57 < b.toNat then -1 else numA (n * 10 + ((b.toNat : Int) - 48)) l
def numB (l : List UInt8) : Int := if l.length = 0 ∨ 9 < l.length ∨ (1 < l.length ∧ l[0]? = some 48) then -1 else numA 0 l
theorem numA_mono : ∀ (l : List UInt8) (n : Int), 0 ≤ n → numA n l = -1 ∨ n ≤ numA n l
  | [], n, _ => .inr (Int.le_refl _)
  | b :: l, n, h => by
    unfold numA
    split
    · exact .inl rfl
    · rcases numA_mono l (n * 10 + ((b.toNat : Int) - 48)) (by omega) with h1 | h1
      · exact .inl h1
      · exact .inr (by omega)
theorem numA_rng : ∀ (l : List UInt8) (n : Int), 0 ≤ n → -1 ≤ numA n l := by
  intro l n h
  rcases numA_mono l n h with h1 | h1 <;> omega
theorem numB_rng (l : List UInt8) : -1 ≤ numB l := by
  unfold numB
  split
  · omega
  · exact numA_rng l 0 (by omega)
theorem numB_dg {n : Int} (h0 : 0 ≤ n) (h1 : n ≤ 9) : numB (dgL n) = n := by
  have e : (UInt8.ofNat (48 + n.toNat)).toNat = 48 + n.toNat := by rw [UInt8.toNat_ofNat']; omega
  unfold numB dgL
  rw [if_neg (by simp)]
  unfold numA
  rw [if_neg (by rw [e]; omega)]
  unfold numA
  rw [e]; omega
theorem numB_one {l : List UInt8} {v : Int} (h : numB l = v) (h0 : 0 ≤ v) (h1 : v ≤ 9) : l = dgL v := by
  unfold numB at h
  split at h
  · omega
  rename_i hc
  match l, hc, h with
  | [], hc, _ => exact absurd (.inl rfl) hc
  | [b], hc, h =>
    unfold numA at h
    split at h
    · omega
    unfold numA at h
    unfold dgL
    have : b = UInt8.ofNat (48 + v.toNat) := by
      apply UInt8.toNat_inj.1
      rw [UInt8.toNat_ofNat']
      omega
    rw [this]
  | b :: c :: r, hc, h =>
    have hb : b.toNat ≠ 48 := fun e => hc (.inr (.inr ⟨by simp, by
      have : b = 48 := UInt8.toNat_inj.1 e
      rw [this]; rfl⟩))
    unfold numA at h
    split at h
    · omega
    unfold numA at h
    split at h
    · omega
    rcases numA_mono r ((0 * 10 + ((b.toNat : Int) - 48)) * 10 + ((c.toNat : Int) - 48)) (by omega) with h2 | h2 <;> omega
/-! ### words -/
/-- the program's reading of a word -/
def endI (e : List UInt8) : Int × Bool := if e = [] then (-1, true) else ((parsed e).1, pOk e)
def cut1 (w : List UInt8) : List UInt8 := (Lib.cut w [58]).1
def cut2 (w : List UInt8) : List UInt8 := (Lib.cut (Lib.cut w [58]).2.1 [45]).1
def cut3 (w : List UInt8) : List UInt8 := (Lib.cut (Lib.cut w [58]).2.1 [45]).2.1
def wordI (w : List UInt8) : Option SBar := if pOk (cut1 w) = true ∧ pOk (cut2 w) = true ∧ (endI (cut3 w)).2 = true then some ⟨(parsed (cut1 w)).1, (parsed (cut2 w)).1, (endI (cut3 w)).1⟩ else none
/-- the reference's reading of a word -/
def wordS (w : List UInt8) : Option SBar :=
  if (splitC 58 w).length = 2 ∧ (splitC 45 ((splitC 58 w).getD 1 [])).length = 2 then
    (if (splitC 45 ((splitC 58 w).getD 1 [])).getD 1 [] = [] then some ⟨numB ((splitC 58 w).getD 0 []), numB ((splitC 45 ((splitC 58 w).getD 1 [])).getD 0 []), -1⟩
    else if numB ((splitC 45 ((splitC 58 w).getD 1 [])).getD 1 []) < 0 then none
    else some ⟨numB ((splitC 58 w).getD 0 []), numB ((splitC 45 ((splitC 58 w).getD 1 [])).getD 0 []), numB ((splitC 45 ((splitC 58 w).getD 1 [])).getD 1 [])⟩)
  else none
def endL (x : SBar) : List UInt8 := if 0 ≤ x.death then dgL x.death else []
theorem wordL_eq (x : SBar) : wordL x = dgL x.degree ++ 58 :: (dgL x.birth ++ 45 :: endL x) := by
  unfold wordL endL
  simp [List.append_assoc]
structure Sm (x : SBar) : Prop where
  d0 : 0 ≤ x.degree
  d1 : x.degree ≤ 9
  b0 : 0 ≤ x.birth
  b1 : x.birth ≤ 9
  e0 : x.death = -1 ∨ 0 ≤ x.death
  e1 : x.death ≤ 9
theorem Sm.end_not {x : SBar} (s : Sm x) {c : UInt8} (hc : c.toNat < 48 ∨ 57 < c.toNat) : c ∉ endL x := by
  unfold endL
  split
  · exact dg_not (by omega) s.e1 hc
  · simp
theorem Sm.rest_not {x : SBar} (s : Sm x) {c : UInt8} (hc : c.toNat < 48 ∨ 57 < c.toNat) (h : c ≠ 45) : c ∉ dgL x.birth ++ 45 :: endL x := by
  intro hm
  rcases List.mem_append.1 hm with hm | hm
  · exact dg_not s.b0 s.b1 hc hm
  · rcases List.mem_cons.1 hm with hm | hm
    · exact h hm
    · exact s.end_not hc hm
theorem Sm.word_not {x : SBar} (s : Sm x) : (44 : UInt8) ∉ wordL x := by
  rw [wordL_eq]
  intro hm
  rcases List.mem_append.1 hm with hm | hm
  · exact dg_not s.d0 s.d1 (.inl (by decide)) hm
  · rcases List.mem_cons.1 hm with hm | hm
    · exact absurd hm (by decide)
    · exact s.rest_not (.inl (by decide)) (by decide) hm
theorem wordI_word {x : SBar} (s : Sm x) : wordI (wordL x) = some x := by
  have h1 : Lib.cut (wordL x) [58] = (dgL x.degree, dgL x.birth ++ 45 :: endL x, true) := by rw [wordL_eq]; exact cut_hit (dg_not s.d0 s.d1 (.inr (by decide)))
  have h2 : Lib.cut (dgL x.birth ++ 45 :: endL x) [45] = (dgL x.birth, endL x, true) := cut_hit (dg_not s.b0 s.b1 (.inl (by decide)))
  have he : endI (endL x) = (x.death, true) := by
    unfold endI endL
    by_cases h : 0 ≤ x.death
    · rw [if_pos h, if_neg (by simp [dgL]), parsed_dg h s.e1, pOk_dg h s.e1]
    · rw [if_neg h, if_pos rfl]
      rcases s.e0 with e | e
      · rw [e]
      · omega
  unfold wordI cut1 cut2 cut3
  rw [h1]
  simp only [h2]
  rw [he, pOk_dg s.d0 s.d1, pOk_dg s.b0 s.b1, if_pos ⟨rfl, rfl, rfl⟩, parsed_dg s.d0 s.d1, parsed_dg s.b0 s.b1]
theorem wordS_word {x : SBar} (s : Sm x) : wordS (wordL x) = some x := by
  have h1 : splitC 58 (wordL x) = [dgL x.degree, dgL x.birth ++ 45 :: endL x] := by
    rw [wordL_eq, splitC_hit (dg_not s.d0 s.d1 (.inr (by decide))), splitC_miss (s.rest_not (.inr (by decide)) (by decide))]
  have h2 : splitC 45 (dgL x.birth ++ 45 :: endL x) = [dgL x.birth, endL x] := by
    rw [splitC_hit (dg_not s.b0 s.b1 (.inl (by decide))), splitC_miss (s.end_not (.inl (by decide)))]
  unfold wordS
  rw [h1]
  show (if (2 = 2 ∧ (splitC 45 (dgL x.birth ++ 45 :: endL x)).length = 2) then _ else _) = _
  simp only [List.getD_cons_succ, List.getD_cons_zero, h2]
  rw [if_pos (by simp)]
  rw [numB_dg s.d0 s.d1, numB_dg s.b0 s.b1]
  by_cases h : 0 ≤ x.death
  · have e : endL x = dgL x.death := if_pos h
    rw [e, if_neg (by simp [dgL]), numB_dg h s.e1, if_neg (by omega)]
  · have e : endL x = [] := if_neg h
    rw [if_pos e]
    rcases s.e0 with e | e
    · rw [← e]
    · omega
theorem two_of {α : Type} {l : List α} {d : α} (h : l.length = 2) : l = [l.getD 0 d, l.getD 1 d] := by
  match l, h with
  | [a, b], _ => rfl
theorem wordS_of {w : List UInt8} {x : SBar} (h : wordS w = some x) (hx : isBar x = true) : w = wordL x := by
  obtain ⟨h1, h2, h3⟩ := isBar_iff.1 hx
  unfold wordS at h
  split at h
  · rename_i hc
    obtain ⟨c1, c2⟩ := hc
    have e1 := two_of (d := []) c1
    have e2 := two_of (d := []) c2
    have j1 := (splitC_join 58 _ w (Nat.le_refl _)).1
    rw [e1, join_two _ _ (by simp), Lib.join_one] at j1
    have j2 := (splitC_join 45 _ ((splitC 58 w).getD 1 []) (Nat.le_refl _)).1
    rw [e2, join_two _ _ (by simp), Lib.join_one] at j2
    generalize (splitC 45 ((splitC 58 w).getD 1 [])).getD 1 [] = E at *
    generalize (splitC 45 ((splitC 58 w).getD 1 [])).getD 0 [] = B at *
    generalize (splitC 58 w).getD 1 [] = R at *
    generalize (splitC 58 w).getD 0 [] = D at *
    have key : ∀ d, x = ⟨numB D, numB B, d⟩ → D = dgL x.degree ∧ B = dgL x.birth := by
      intro d e
      subst e
      exact ⟨numB_one rfl h1.1 (by omega), numB_one rfl h2.1 (by omega)⟩
    rw [wordL_eq, ← j1, ← j2]
    split at h
    · rename_i hE
      have h := (Option.some.inj h).symm
      obtain ⟨k1, k2⟩ := key _ h
      have e3 : endL x = [] := if_neg (by rw [h]; simp)
      rw [← k1, ← k2, e3, hE]
    · split at h
      · cases h
      · rename_i hE hn
        have h := (Option.some.inj h).symm
        obtain ⟨k1, k2⟩ := key _ h
        have hd : 0 ≤ x.death := by rw [h]; show 0 ≤ numB E; omega
        have e3 : endL x = dgL x.death := if_pos hd
        have e4 : E = dgL x.death := numB_one (by rw [h]) hd (by rcases h3 with h3 | h3 <;> omega)
        rw [← k1, ← k2, e3, ← e4]
  · cases h
/-! ### texts -/
theorem bars_sm {xs : List SBar} (h : areBars xs = true) : ∀ x ∈ xs, Sm x := by
  intro x hx
  obtain ⟨i, hi, e⟩ := List.getElem_of_mem hx
  have e : bar xs i = x := by rw [← e]; simp [bar, hi]
  obtain ⟨h1, h2, h3⟩ := areBars_bar h hi
  rw [e] at h1 h2 h3
  exact ⟨h1.1, by omega, h2.1, by omega, by rcases h3 with h | h <;> omega, by rcases h3 with h | h <;> omega⟩
theorem bars_is {xs : List SBar} (h : areBars xs = true) : ∀ x ∈ xs, isBar x = true := by
  simp only [areBars, Bool.and_eq_true] at h
  exact List.all_eq_true.1 h.1.2
abbrev textB (xs : List SBar) : List UInt8 := textL xs xs.length
theorem textB_join (xs : List SBar) : textB xs = Lib.join (xs.map wordL) [44] := by
  have := textL_join xs xs.length (Nat.le_refl _)
  rw [List.take_length] at this
  exact this.symm
theorem split_text {xs : List SBar} (h : areBars xs = true) (hne : xs ≠ []) : splitC 44 (textB xs) = xs.map wordL := by
  rw [textB_join]
  refine splitC_of 44 _ (by simpa using hne) fun w hw => ?_
  obtain ⟨x, hx, rfl⟩ := List.mem_map.1 hw
  exact (bars_sm h x hx).word_not
theorem wordL_ne (x : SBar) : wordL x ≠ [] := by rw [wordL_eq]; simp
theorem text_nil {xs : List SBar} (h : textB xs = []) : xs = [] := by
  cases xs with
  | nil => rfl
  | cons x r =>
    rw [textB_join] at h
    cases r with
    | nil => rw [List.map_singleton, Lib.join_one] at h; exact absurd h (wordL_ne x)
    | cons y r => rw [List.map_cons, join_two _ _ (by simp)] at h; simp at h
theorem map_some {f : List UInt8 → Option SBar} {xs : List SBar} (h : ∀ x ∈ xs, f (wordL x) = some x) : (xs.map wordL).map f = xs.map some := by
  rw [List.map_map]
  exact List.map_congr_left fun x hx => h x hx
theorem some_inj {xs ys : List SBar} (h : xs.map some = ys.map some) : xs = ys := by
  induction xs generalizing ys with
  | nil => cases ys <;> simp_all
  | cons x r ih => cases ys with
    | nil => simp at h
    | cons y s =>
      simp only [List.map_cons, List.cons.injEq, Option.some.injEq] at h
      rw [h.1, ih h.2]
theorem text_inj {xs ys : List SBar} (hx : areBars xs = true) (hy : areBars ys = true) (h : textB xs = textB ys) : xs = ys := by
  by_cases h1 : xs = []
  · subst h1
    exact (text_nil (h.symm.trans rfl)).symm
  · by_cases h2 : ys = []
    · subst h2
      exact text_nil (h.trans rfl)
    · have e := split_text hx h1
      rw [h, split_text hy h2] at e
      have e := congrArg (List.map wordI) e
      rw [map_some fun x hm => wordI_word (bars_sm hx x hm), map_some fun x hm => wordI_word (bars_sm hy x hm)] at e
      exact (some_inj e).symm
open Classical in
/-- what a text stands for -/
noncomputable def parseB (l : List UInt8) : List SBar × Int := if h : ∃ xs, areBars xs = true ∧ textB xs = l then (Classical.choose h, 0) else ([], 6)
theorem parseB_of {l : List UInt8} {xs : List SBar} (h : areBars xs = true) (e : textB xs = l) : parseB l = (xs, 0) := by
  have hh : ∃ xs, areBars xs = true ∧ textB xs = l := ⟨xs, h, e⟩
  unfold parseB
  rw [dif_pos hh]
  obtain ⟨h1, h2⟩ := Classical.choose_spec hh
  rw [text_inj h1 h (h2.trans e.symm)]
theorem parseB_no {l : List UInt8} (h : ∀ xs, areBars xs = true → textB xs ≠ l) : parseB l = ([], 6) := by
  unfold parseB
  rw [dif_neg fun ⟨xs, h1, h2⟩ => h xs h1 h2]
theorem parseB_len (l : List UInt8) : (parseB l).1.length ≤ 24 := by
  unfold parseB
  split
  · rename_i h
    exact areBars_len (Classical.choose_spec h).1
  · simp
theorem parseB_nil : parseB [] = ([], 0) := parseB_of (xs := []) (by decide) rfl
/-- a word that cannot be read -/
theorem parseB_bad {f : List UInt8 → Option SBar} (hf : ∀ x, Sm x → f (wordL x) = some x) {l w : List UInt8} (hl : l ≠ []) (hw : w ∈ splitC 44 l) (hn : f w = none) : parseB l = ([], 6) := by
  refine parseB_no fun xs h1 h2 => ?_
  subst h2
  rw [split_text h1 (fun e => hl (by rw [e]; rfl))] at hw
  obtain ⟨x, hx, rfl⟩ := List.mem_map.1 hw
  rw [hf x (bars_sm h1 x hx)] at hn
  cases hn
/-- all words are read: the text stands for these bars, or for none -/
theorem parseB_read {f : List UInt8 → Option SBar} (hf : ∀ x, Sm x → f (wordL x) = some x) {l : List UInt8} (hl : l ≠ []) {xs : List SBar} (hr : (splitC 44 l).map f = xs.map some) (hn : ¬ (areBars xs = true ∧ textB xs = l)) : parseB l = ([], 6) := by
  refine parseB_no fun ys h1 h2 => ?_
  subst h2
  rw [split_text h1 (fun e => hl (by rw [e]; rfl)), map_some fun x hx => hf x (bars_sm h1 x hx)] at hr
  rw [← some_inj hr] at hn
  exact hn ⟨h1, rfl⟩
theorem parseB_strict {l : List UInt8} {xs : List SBar} (hr : (splitC 44 l).map wordS = xs.map some) (h : areBars xs = true) : parseB l = (xs, 0) := by
  refine parseB_of h ?_
  rw [textB_join]
  have e : splitC 44 l = xs.map wordL := by
    have hi := bars_is h
    generalize splitC 44 l = ws at hr
    clear h
    induction ws generalizing xs with
    | nil => cases xs <;> simp_all
    | cons w r ih => cases xs with
      | nil => simp at hr
      | cons x s =>
        simp only [List.map_cons, List.cons.injEq] at hr
        rw [List.map_cons, wordS_of hr.1 (hi x (by simp)), ih (fun y hy => hi y (List.mem_cons_of_mem _ hy)) hr.2]
  rw [← e]
  exact (splitC_join 44 _ l (Nat.le_refl _)).1
end Go.Gl

set_option linter.unusedVariables false
set_option linter.unusedSimpArgs false
namespace Go.Gl
open Go.Proofs Go.Proofs.YthhilbeddkkigaaDoor Go.Pl Go.RowKit

theorem str_list (l : List UInt8) : (⟨l.toArray⟩ : ByteArray).data.toList = l := by simp
theorem split_rows (l : List UInt8) (c : UInt8) : (Lib.splitB ⟨#[c]⟩ 0 (Lib.countB ⟨l.toArray⟩ ⟨#[c]⟩) ⟨l.toArray⟩).map Value.string = (splitC c l).map str := by
  have h := Lib.splitB_data ⟨#[c]⟩ 0 (Lib.countB ⟨l.toArray⟩ ⟨#[c]⟩) ⟨l.toArray⟩
  have h2 : Lib.countB ⟨l.toArray⟩ ⟨#[c]⟩ = Lib.count l [c] := by simp [Lib.countB]
  rw [h2] at h ⊢
  rw [show (⟨#[c]⟩ : ByteArray).data.toList = [c] from rfl, str_list, splitK_eq c _ l (Nat.le_refl _)] at h
  rw [← h, List.map_map]
  refine List.map_congr_left fun s _ => ?_
  show Value.string s = Value.string ⟨s.data.toList.toArray⟩
  congr

theorem split_l (h : AH) (b0 b1 b2 : Nat) (G : Glb h b0 b1 b2) (l : List UInt8) (c : UInt8) (hs : l.length ≤ 1048576) : ACalls Tryd.prog 15 [str l, .string ⟨#[c]⟩] h (fun r h' => ∃ b, r = .slice (some ⟨b, 0, none⟩) (splitC c l).length 1 ∧ look h' b = some ⟨(splitC c l).map str, some (9, 1)⟩ ∧ h.length ≤ b ∧ Le h h') := by
  have := split_c h b0 b1 b2 G ⟨l.toArray⟩ c (by rw [str_size]; exact hs)
  rw [split_rows, List.length_map] at this
  exact this

theorem cut_l (h : AH) (b0 b1 b2 : Nat) (G : Glb h b0 b1 b2) (l : List UInt8) (c : UInt8) (hs : l.length ≤ 1048576) : ACalls Tryd.prog 16 [str l, .string ⟨#[c]⟩] h (fun r h' => r = .tuple #[str (Lib.cut l [c]).1, str (Lib.cut l [c]).2.1, .bool (Lib.cut l [c]).2.2] ∧ h' = h) := by
  have := cut_c h b0 b1 b2 G ⟨l.toArray⟩ c (by rw [str_size]; exact hs)
  rw [str_list] at this
  exact this

theorem parse_l (h : AH) (b0 b1 b2 : Nat) (G : Glb h b0 b1 b2) (l : List UInt8) (hs : l.length ≤ 1048576) : ACalls Tryd.prog 17 [str l, .int .i64 10, .int .i64 64] h (fun r h' => r = .tuple #[.int .i64 (parsed l).1, errV (pOk l)] ∧ h' = h) := by
  have := parseInt_c h b0 b1 b2 G ⟨l.toArray⟩ (by rw [str_size]; exact hs)
  rw [str_list, parsed_err] at this
  exact this

theorem cut_len1 (l sep : List UInt8) : (Lib.cut l sep).1.length ≤ l.length := by
  unfold Lib.cut
  split
  · show (l.take _).length ≤ _
    rw [List.length_take]; exact Nat.min_le_right _ _
  · exact Nat.le_refl _
theorem cut_len2 (l sep : List UInt8) : (Lib.cut l sep).2.1.length ≤ l.length := by
  unfold Lib.cut
  split
  · simp [List.length_drop]
  · simp
theorem splitC_len (c : UInt8) (l : List UInt8) : (splitC c l).length ≤ l.length + 1 := by
  rw [← splitK_eq c _ l (Nat.le_refl _)]
  have h := Lib.splitB_data ⟨#[c]⟩ 0 (Lib.count l [c]) ⟨l.toArray⟩
  rw [show (⟨#[c]⟩ : ByteArray).data.toList = [c] from rfl, str_list] at h
  rw [← h, List.length_map]
  have h1 := Lib.splitB_length_le ⟨#[c]⟩ 0 (Lib.count l [c]) ⟨l.toArray⟩
  have h2 := Lib.countB_le ⟨#[c]⟩ (Nat.le_refl 1) l.length ⟨l.toArray⟩ (by rw [str_size]; exact Nat.le_refl _)
  simp only [Lib.countB, str_list] at h2
  rw [str_size] at h2
  omega
theorem splitC_word {c : UInt8} {l w : List UInt8} (h : w ∈ splitC c l) : w.length ≤ l.length := by
  have hj := (splitC_join c _ l (Nat.le_refl _)).1
  generalize splitC c l = ws at *
  subst hj
  induction ws with
  | nil => cases h
  | cons x r ih =>
    cases r with
    | nil =>
      rw [Lib.join_one]
      rw [List.mem_singleton] at h
      rw [h]; exact Nat.le_refl _
    | cons y r =>
      rw [join_two c x (by simp)]
      rcases List.mem_cons.1 h with rfl | h
      · simp
      · have := ih h
        simp; omega
/-- a load out of a row of texts -/
theorem LoadX.text {h : AH} {i : TI} {b k : Nat} {own : Option (TypeId × Nat)} {ws : List (List UInt8)} {K : Value → Prop} (hl : look h b = some ⟨ws.map str, own⟩) (hk : k < ws.length) (hK : K (str (ws.getD k []))) (hi : i.agg = false := by rfl) : LoadX h i b (0 + k) K :=
  LoadX.same hl (v := str (ws.getD k [])) (by unfold ldv; rw [hi]; simp [hk]) hK
theorem getD_mem {ws : List (List UInt8)} {k : Nat} (hk : k < ws.length) : ws.getD k [] ∈ ws := by simp [hk]
theorem take_read {ws : List (List UInt8)} {xs : List SBar} {x : SBar} {k : Nat} {f : List UInt8 → Option SBar} (hk : k < ws.length) (h : (ws.take k).map f = xs.map some) (hx : f (ws.getD k []) = some x) : (ws.take (k + 1)).map f = (xs ++ [x]).map some := by
  have e : ws[k] = ws.getD k [] := by simp [hk]
  rw [List.take_succ_eq_append_getElem hk, List.map_append, List.map_append, h, e, List.map_singleton, hx]
  rfl
theorem read_len {ws : List (List UInt8)} {xs : List SBar} {k : Nat} {f : List UInt8 → Option SBar} (hk : k ≤ ws.length) (h : (ws.take k).map f = xs.map some) : xs.length = k := by
  have := congrArg List.length h
  simp only [List.length_map, List.length_take] at this
  omega
theorem str_eq (a b : List UInt8) : ((⟨a.toArray⟩ : ByteArray).toList == (⟨b.toArray⟩ : ByteArray).toList) = decide (a = b) := by
  have h : ∀ a : List UInt8, (⟨a.toArray⟩ : ByteArray).toList = a := fun a => by rw [ByteArray.toList_eq]
  rw [h, h]
  by_cases e : a = b <;> simp [e]
theorem cellsB_snoc (xs : List SBar) (x : SBar) : cellsB xs ++ [.int .i64 x.degree, .int .i64 x.birth, .int .i64 x.death] = cellsB (xs ++ [x]) := by
  rw [cellsB_append]; rfl

theorem parseBarsI_c (h : AH) (b0 b1 b2 : Nat) (G : Glb h b0 b1 b2) (l : List UInt8) (hs : l.length ≤ 1048576) : ACalls Tryd.prog 6 [str l] h (MadeRC 45 3 h (parseB l).1.length (cellsB (parseB l).1) (parseB l).2) := by
  refine ACalls.of Tt.tab Tryd.func6 rfl (by kernel_rfl) Tryd.ntmps6 _ rfl rfl (fun hw => ?_)
  have S := Sep.start h
  refine S.new fun bo g S => ?_
  have S := S.bx_rc 0 (k := 0) rfl rfl
  refine BIf.mk (fun h1 => ?_) (fun h1 => ?_)
  · have h1 : l = [] := of_decide_eq_true ((str_eq l []).symm.trans h1)
    subst h1
    rw [parseB_nil]
    exact S.endRC 0 rfl
  have h1 : l ≠ [] := of_decide_eq_false ((str_eq l []).symm.trans h1)
  refine CallX.same (split_l g b0 b1 b2 (G.le S.le) l 44 hs) ?_
  rintro r g ⟨bw, rfl, lw, gw, ll⟩
  have S := S.box ll lw gw
  have hwl := splitC_len 44 l
  have hbad : ∀ k, k < (splitC 44 l).length → wordI ((splitC 44 l).getD k []) = none → parseB l = ([], 6) := fun k hk e => parseB_bad (fun x s => wordI_word s) h1 (getD_mem hk) e
  have hall : ∀ xs : List SBar, (splitC 44 l).map wordI = xs.map some → ¬ (areBars xs = true ∧ textB xs = l) → parseB l = ([], 6) := fun xs e hn => parseB_read (fun x s => wordI_word s) h1 e hn
  have hword : ∀ k, k < (splitC 44 l).length → ((splitC 44 l).getD k []).length ≤ 1048576 := fun k hk => Nat.le_trans (splitC_word (getD_mem hk)) hs
  generalize hws : splitC 44 l = ws at *
  refine ⟨⟨[0, 4, 24, 25, 26], fun n' vs g => ∃ (i : Nat) (A : Option Addr) (c : Nat) (xs : List SBar), n' = ws.length - i ∧ i ≤ ws.length ∧ (ws.take i).map wordI = xs.map some ∧
    Sep h.length h g [.bx bw 9 1 (ws.map str), .rc 45 3 h.length (.slice A i c) i (cellsB xs)] ∧
    vs = [str l, .slice A i c, .slice (some ⟨bw, 0, none⟩) ws.length 1, .int .i64 ws.length, .int .i64 i], _, ⟨0, _, _, [], rfl, Nat.zero_le _, rfl, S, rfl⟩, ?_⟩⟩
  clear S
  rintro n' vs g ⟨i, A, c, xs, rfl, hi, hr, S, rfl⟩
  have hxl := read_len hi hr
  refine BIf.mk (fun h2 => ?_) (fun h2 => ?_)
  · have hlt : i < ws.length := by simpa using h2
    have hw1 := hword i hlt
    have hb1 := hbad i hlt
    have hr1 := fun x => take_read (x := x) hlt hr
    refine IdxX.mk (by omega) (by omega) ?_
    refine LoadX.text (k := i) (S.at_ 0 rfl) hlt ?_
    generalize ws.getD i [] = w at *
    refine CallX.same (cut_l g b0 b1 b2 (G.le S.le) w 58 hw1) ?_
    rintro r g' ⟨rfl, rfl⟩
    have hc1 := cut_len1 w [58]
    have hc2 := cut_len2 w [58]
    refine CallX.same (cut_l g' b0 b1 b2 (G.le S.le) (Lib.cut w [58]).2.1 45 (by omega)) ?_
    rintro r g ⟨rfl, rfl⟩
    have hc3 := cut_len1 (Lib.cut w [58]).2.1 [45]
    have hc4 := cut_len2 (Lib.cut w [58]).2.1 [45]
    refine CallX.same (parse_l g b0 b1 b2 (G.le S.le) (Lib.cut w [58]).1 (by omega)) ?_
    rintro r g' ⟨rfl, rfl⟩
    have refused : ∀ {Z : List Res} {Q : AH}, Sep h.length h Q Z → wordI w = none → FinX h (MadeRC 45 3 h (parseB l).1.length (cellsB (parseB l).1) (parseB l).2) (.tuple #[.slice none 0 0, .int .i64 6]) Q := by
      intro Z Q S hn
      rw [hb1 hn]
      exact S.nilRC
    have onward : ∀ (E : List UInt8) (d : Int), E = (Lib.cut (Lib.cut w [58]).2.1 [45]).2.1 → endI E = (d, true) → pOk (cut1 w) = true → pOk (cut2 w) = true → wordI w = some ⟨(parsed (cut1 w)).1, (parsed (cut2 w)).1, d⟩ := by
      rintro E d rfl e1 e2 e3
      unfold wordI
      rw [show cut3 w = (Lib.cut (Lib.cut w [58]).2.1 [45]).2.1 from rfl, e1, if_pos ⟨e2, e3, rfl⟩]
    have none1 : pOk (Lib.cut w [58]).1 = false → wordI w = none := fun e => if_neg fun hh => by rw [show pOk (cut1 w) = false from e] at hh; cases hh.1
    have none2 : pOk (Lib.cut (Lib.cut w [58]).2.1 [45]).1 = false → wordI w = none := fun e => if_neg fun hh => by rw [show pOk (cut2 w) = false from e] at hh; cases hh.2.1
    have none3 : (Lib.cut (Lib.cut w [58]).2.1 [45]).2.1 ≠ [] → pOk (Lib.cut (Lib.cut w [58]).2.1 [45]).2.1 = false → wordI w = none := fun e0 e => if_neg fun hh => by
      rw [show endI (cut3 w) = ((parsed (cut3 w)).1, pOk (cut3 w)) from if_neg e0, show pOk (cut3 w) = false from e] at hh; cases hh.2.2
    have endI_nil : ∀ {E : List UInt8}, E = [] → endI E = (-1, true) := fun e => if_pos e
    have endI_ok : ∀ {E : List UInt8}, E ≠ [] → pOk E = true → endI E = ((parsed E).1, true) := fun e0 e => by rw [← e]; exact if_neg e0
    cases hp1 : pOk (Lib.cut w [58]).1 <;> (
      refine CallX.same (parse_l g' b0 b1 b2 (G.le S.le) (Lib.cut (Lib.cut w [58]).2.1 [45]).1 (by omega)) ?_
      rintro r g ⟨rfl, rfl⟩
      cases hp2 : pOk (Lib.cut (Lib.cut w [58]).2.1 [45]).1 <;> (
        refine CallX.same (parse_l g b0 b1 b2 (G.le S.le) (Lib.cut (Lib.cut w [58]).2.1 [45]).2.1 (by omega)) ?_
        rintro r g' ⟨rfl, rfl⟩
        cases hp3 : pOk (Lib.cut (Lib.cut w [58]).2.1 [45]).2.1 <;> refine BIf.mk (fun h3 => ?_) (fun h3 => ?_)))
    · repeat (first | refine BIf.yes rfl ?_ | refine BIf.no rfl ?_)
      exact refused S (none1 hp1)
    · repeat (first | refine BIf.yes rfl ?_ | refine BIf.no rfl ?_)
      exact refused S (none1 hp1)
    · repeat (first | refine BIf.yes rfl ?_ | refine BIf.no rfl ?_)
      exact refused S (none1 hp1)
    · repeat (first | refine BIf.yes rfl ?_ | refine BIf.no rfl ?_)
      exact refused S (none1 hp1)
    · repeat (first | refine BIf.yes rfl ?_ | refine BIf.no rfl ?_)
      exact refused S (none1 hp1)
    · repeat (first | refine BIf.yes rfl ?_ | refine BIf.no rfl ?_)
      exact refused S (none1 hp1)
    · repeat (first | refine BIf.yes rfl ?_ | refine BIf.no rfl ?_)
      exact refused S (none1 hp1)
    · repeat (first | refine BIf.yes rfl ?_ | refine BIf.no rfl ?_)
      exact refused S (none1 hp1)
    · repeat (first | refine BIf.yes rfl ?_ | refine BIf.no rfl ?_)
      exact refused S (none2 hp2)
    · repeat (first | refine BIf.yes rfl ?_ | refine BIf.no rfl ?_)
      exact refused S (none2 hp2)
    · repeat (first | refine BIf.yes rfl ?_ | refine BIf.no rfl ?_)
      exact refused S (none2 hp2)
    · repeat (first | refine BIf.yes rfl ?_ | refine BIf.no rfl ?_)
      exact refused S (none2 hp2)
    · repeat (first | refine BIf.yes rfl ?_ | refine BIf.no rfl ?_)
      refine S.new fun bn g S => ?_
      refine S.app 1 rfl rfl rfl (by omega) fun b' g S => ?_
      refine WR.as (r := ((i + 1 : Nat) : Int)) (by omega) ?_
      exact ⟨ws.length - (i + 1), by omega, i + 1, _, _, _, rfl, hlt, hr1 _ (onward _ _ rfl (endI_nil (of_decide_eq_true ((str_eq _ []).symm.trans h3))) hp1 hp2), S.eq (by rw [← cellsB_snoc]; rfl), rfl⟩
    · repeat (first | refine BIf.yes rfl ?_ | refine BIf.no rfl ?_)
      exact refused S (none3 (of_decide_eq_false ((str_eq _ []).symm.trans h3)) hp3)
    · repeat (first | refine BIf.yes rfl ?_ | refine BIf.no rfl ?_)
      refine S.new fun bn g S => ?_
      refine S.app 1 rfl rfl rfl (by omega) fun b' g S => ?_
      refine WR.as (r := ((i + 1 : Nat) : Int)) (by omega) ?_
      exact ⟨ws.length - (i + 1), by omega, i + 1, _, _, _, rfl, hlt, hr1 _ (onward _ _ rfl (endI_nil (of_decide_eq_true ((str_eq _ []).symm.trans h3))) hp1 hp2), S.eq (by rw [← cellsB_snoc]; rfl), rfl⟩
    · repeat (first | refine BIf.yes rfl ?_ | refine BIf.no rfl ?_)
      refine S.new fun bn g S => ?_
      refine S.app 1 rfl rfl rfl (by omega) fun b' g S => ?_
      refine WR.as (r := ((i + 1 : Nat) : Int)) (by omega) ?_
      exact ⟨ws.length - (i + 1), by omega, i + 1, _, _, _, rfl, hlt, hr1 _ (onward _ _ rfl (endI_ok (of_decide_eq_false ((str_eq _ []).symm.trans h3)) hp3) hp1 hp2), S.eq (by rw [← cellsB_snoc]; rfl), rfl⟩
  have hi2 : i = ws.length := by simp at h2; omega
  subst hi2
  rw [List.take_length] at hr
  have hcx := S.rbRc 1 rfl hxl (by omega)
  refine CallX.same (areBarsI_c _ _ xs hcx) ?_
  rintro r g' ⟨rfl, rfl⟩
  cases ha : areBars xs
  · repeat (first | refine BIf.yes rfl ?_ | refine BIf.no rfl ?_)
    rw [hall xs hr (by rw [ha]; simp)]
    exact S.nilRC
  refine BIf.no rfl ?_
  refine CallX.same (barsText_c _ _ xs hcx ha) ?_
  rintro r g ⟨rfl, rfl⟩
  refine BIf.mk (fun h3 => ?_) (fun h3 => ?_)
  · have h3 : textB xs ≠ l := of_decide_eq_false ((str_eq _ l).symm.trans (by simpa using h3))
    rw [hall xs hr (fun hh => h3 hh.2)]
    exact S.nilRC
  have h3 : textB xs = l := of_decide_eq_true ((str_eq _ l).symm.trans (by simpa using h3))
  rw [parseB_of ha h3, hxl]
  exact S.endRC 1 rfl

end Go.Gl

set_option linter.unusedVariables false
set_option linter.unusedSimpArgs false
namespace Go.Gl
open Go.Proofs Go.Proofs.YthhilbeddkkigaaDoor Go.Pl Go.RowKit

theorem extract_str (l : List UInt8) (a b : Nat) : (⟨l.toArray⟩ : ByteArray).extract a b = ⟨((l.take b).drop a).toArray⟩ := by
  apply ByteArray.ext
  rw [ByteArray.data_extract]
  apply Array.ext'
  rw [Array.toList_extract, List.extract, List.drop_take]
theorem strB_at {l : List UInt8} {i : Nat} (h : i < l.length) : strB ⟨l.toArray⟩ i = ((l[i]).toNat : Int) := by
  simp [strB, h]
/-- one more byte -/
theorem splitA_at {c : UInt8} {l : List UInt8} {done : List (List UInt8)} {at_ i : Nat} (hi : i < l.length) (ha : at_ ≤ i) :
    splitA c done ((l.take i).drop at_) (l.drop i) = if l[i] = c then splitA c (done ++ [(l.take i).drop at_]) ((l.take (i + 1)).drop (i + 1)) (l.drop (i + 1)) else splitA c done ((l.take (i + 1)).drop at_) (l.drop (i + 1)) := by
  have e : (l.take (i + 1)).drop (i + 1) = [] := List.drop_eq_nil_of_le (by rw [List.length_take]; omega)
  have e2 : (l.take (i + 1)).drop at_ = (l.take i).drop at_ ++ [l[i]] := by
    rw [List.take_succ_eq_append_getElem hi, List.drop_append_of_le_length (by rw [List.length_take]; omega)]
  rw [List.drop_eq_getElem_cons hi, splitA, e, e2]
/-- a fresh row of texts -/
def RowS (ty : TypeId) (h : AH) (ws : List (List UInt8)) (r : Value) (h' : AH) : Prop := ∃ b, r = .slice (some ⟨b, 0, none⟩) ws.length 1 ∧ look h' b = some ⟨ws.map str, some (ty, 1)⟩ ∧ h.length ≤ b ∧ Le h h'

theorem l01Split_c (h : AH) (l : List UInt8) (c : UInt8) (n : Int) (hn : n = (c.toNat : Int)) (hs : l.length ≤ 1048576) : ACalls Tryd.prog 24 [str l, .int .u8 n] h (RowS 9 h (splitC c l)) := by
  refine ACalls.of Tt.tab Tryd.func24 rfl (by kernel_rfl) Tryd.ntmps24 _ rfl rfl (fun hw => ?_)
  have S := Sep.start h
  refine S.new fun bo g S => ?_
  have S := S.bx_rc 0 (k := 0) rfl rfl
  have hsz := str_size l
  refine ⟨⟨[0, 1, 5, 6, 7], fun n' vs g => ∃ (i at_ : Nat) (b : Nat) (done : List (List UInt8)), n' = l.length - i ∧ i ≤ l.length ∧ at_ ≤ i ∧ done.length ≤ i ∧ splitC c l = splitA c done ((l.take i).drop at_) (l.drop i) ∧
    Sep h.length h g [.rc 9 1 h.length (.slice (some ⟨b, 0, none⟩) done.length 1) done.length (done.map str)] ∧
    vs = [str l, .int .u8 n, .slice (some ⟨b, 0, none⟩) done.length 1, .int .i64 at_, .int .i64 i], _, ⟨0, 0, bo, [], rfl, Nat.zero_le _, Nat.le_refl _, Nat.le_refl _, rfl, S, rfl⟩, ?_⟩⟩
  clear S
  rintro n' vs g ⟨i, at_, b, done, rfl, hi, hat, hdl, hr, S, rfl⟩
  refine BIf.mk (fun h2 => ?_) (fun h2 => ?_)
  · have hlt : i < l.length := by simp [hsz] at h2; omega
    have hstep := splitA_at (c := c) (done := done) hlt hat
    refine IdxX.mk (by omega) (by rw [hsz]; omega) ?_
    rw [show ((i : Int)).toNat = i from rfl, strB_at hlt]
    refine BIf.mk (fun h3 => ?_) (fun h3 => ?_)
    · have h3 : l[i] = c := by
        have h3 : ((l[i]).toNat : Int) = n := by simpa using h3
        exact UInt8.toNat_inj.1 (by omega)
      rw [if_pos h3] at hstep
      refine ⟨by omega, by omega, by rw [hsz]; omega, ?_⟩
      rw [show ((at_ : Int)).toNat = at_ from rfl, show ((i : Int)).toNat = i from rfl, extract_str]
      refine S.new fun bn g S => ?_
      refine S.app 0 rfl rfl rfl (by omega) fun b' g S => ?_
      refine WR.as (r := ((i + 1 : Nat) : Int)) (by omega) ?_
      refine WR.as (r := ((i + 1 : Nat) : Int)) (by omega) ?_
      refine ⟨l.length - (i + 1), by omega, i + 1, i + 1, b', done ++ [(l.take i).drop at_], rfl, hlt, Nat.le_refl _, by simp; omega, hr.trans hstep, ?_, ?_⟩
      · refine S.eq ?_
        rw [List.length_append, List.map_append]; rfl
      · rw [List.length_append]; rfl
    · have h3 : l[i] ≠ c := by
        have h3 : ¬ ((l[i]).toNat : Int) = n := by simpa using h3
        intro e
        rw [e] at h3
        exact h3 hn.symm
      rw [if_neg h3] at hstep
      refine WR.as (r := ((i + 1 : Nat) : Int)) (by omega) ?_
      exact ⟨l.length - (i + 1), by omega, i + 1, at_, b, done, rfl, hlt, by omega, by omega, hr.trans hstep, S, rfl⟩
  have hi2 : i = l.length := by simp [hsz] at h2; omega
  subst hi2
  have e : splitC c l = done ++ [(l.take l.length).drop at_] := by rw [hr, List.drop_length]; rfl
  refine ⟨by omega, by rw [hsz]; omega, by rw [hsz]; omega, ?_⟩
  rw [show ((at_ : Int)).toNat = at_ from rfl, hsz, show (((l.length : Nat)) : Int).toNat = l.length from rfl, extract_str]
  refine S.new fun bn g S => ?_
  refine S.app 0 rfl rfl rfl (by omega) fun b' g S => ?_
  have S2 := S.rc_bx 0 rfl
  refine FinX.here S.le.len ⟨b', ?_, ?_, S2.ge 0 rfl, S.le⟩
  · rw [e, List.length_append]; rfl
  · rw [e, List.map_append]
    exact S2.at_ 0 rfl

theorem numA_le : ∀ (l : List UInt8) (n : Int), 0 ≤ n → numA n l ≤ (n + 1) * 10 ^ l.length
  | [], n, h => by simp [numA]; omega
  | b :: l, n, h => by
    unfold numA
    split
    · have : (0 : Int) ≤ (n + 1) * 10 ^ (b :: l).length := Int.mul_nonneg (by omega) (Int.le_of_lt (Int.pow_pos (by decide)))
      omega
    · have h1 := numA_le l (n * 10 + ((b.toNat : Int) - 48)) (by omega)
      have h2 : (n * 10 + ((b.toNat : Int) - 48) + 1) * 10 ^ l.length ≤ ((n + 1) * 10) * 10 ^ l.length := Int.mul_le_mul_of_nonneg_right (by omega) (Int.le_of_lt (Int.pow_pos (by decide)))
      rw [List.length_cons, Int.pow_succ, Int.mul_comm (10 ^ l.length : Int) 10, ← Int.mul_assoc]
      omega
theorem pow10_le {i : Nat} (h : i ≤ 9) : (10 : Int) ^ i ≤ 1000000000 := by
  match i, h with
  | 0, _ | 1, _ | 2, _ | 3, _ | 4, _ | 5, _ | 6, _ | 7, _ | 8, _ | 9, _ => decide

theorem l01Number_c (h : AH) (l : List UInt8) (hs : l.length ≤ 1048576) : ACalls Tryd.prog 25 [str l] h (fun r h' => r = .int .i64 (numB l) ∧ h' = h) := by
  have hsz := str_size l
  refine ACalls.of Tt.tab Tryd.func25 rfl (by kernel_rfl) Tryd.ntmps25 _ rfl rfl (fun hw => ?_)
  have bad : (l.length = 0 ∨ 9 < l.length ∨ (1 < l.length ∧ l[0]? = some 48)) → numB l = -1 := fun hh => if_pos hh
  refine BIf.mk (fun h1 => ?_) (fun h1 => ?_)
  · repeat (first | refine BIf.yes rfl ?_ | refine BIf.no rfl ?_)
    rw [bad (.inl (by simpa [hsz] using h1))]
    exact FinX.keep hw (Le.refl _) rfl ⟨rfl, rfl⟩
  have h1 : ¬ l.length = 0 := by simpa [hsz] using h1
  refine BIf.mk (fun h2 => ?_) (fun h2 => ?_)
  · repeat (first | refine BIf.yes rfl ?_ | refine BIf.no rfl ?_)
    rw [bad (.inr (.inl (by simp [hsz] at h2; omega)))]
    exact FinX.keep hw (Le.refl _) rfl ⟨rfl, rfl⟩
  have h2 : ¬ 9 < l.length := by simp [hsz] at h2; omega
  have main : ∀ (hc : ¬ (l.length = 0 ∨ 9 < l.length ∨ (1 < l.length ∧ l[0]? = some 48))), numB l = numA 0 l := fun hc => if_neg hc
  have h0 : l[0]? = some (l[0]'(by omega)) := List.getElem?_eq_getElem _
  repeat (first | refine BIf.yes rfl ?_ | refine BIf.no rfl ?_)
  refine BIf.mk (fun h3 => ?_) (fun h3 => ?_)
  · have h3 : 1 < l.length := by simp [hsz] at h3; omega
    refine IdxX.mk (by omega) (by rw [hsz]; omega) ?_
    rw [show ((0 : Int)).toNat = 0 from rfl, strB_at (i := 0) (by omega)]
    repeat (first | refine BIf.yes rfl ?_ | refine BIf.no rfl ?_)
    refine BIf.mk (fun h4 => ?_) (fun h4 => ?_)
    · have h4 : l[0]'(by omega) = 48 := by
        have h4 : ((l[0]'(by omega)).toNat : Int) = 48 := by simpa using h4
        have e48 : (48 : UInt8).toNat = 48 := rfl
        exact UInt8.toNat_inj.1 (by rw [e48]; omega)
      rw [bad (.inr (.inr ⟨h3, by rw [h0, h4]⟩))]
      exact FinX.keep hw (Le.refl _) rfl ⟨rfl, rfl⟩
    have h4 : ¬ l[0]'(by omega) = 48 := fun e => by
      have h4 : ¬ ((l[0]'(by omega)).toNat : Int) = 48 := by simpa using h4
      rw [e] at h4; exact h4 rfl
    rw [main (fun hh => by
      rcases hh with hh | hh | ⟨_, hh⟩
      · exact h1 hh
      · exact h2 hh
      · rw [h0] at hh; exact h4 (Option.some.inj hh))]
    refine ⟨⟨[0, 3, 4], fun n' vs g => ∃ (i : Nat) (n : Int), n' = l.length - i ∧ i ≤ l.length ∧ 0 ≤ n ∧ n + 1 ≤ 10 ^ i ∧ numA 0 l = numA n (l.drop i) ∧ g = h ∧
      vs = [str l, .int .i64 n, .int .i64 i], _, ⟨0, 0, rfl, Nat.zero_le _, by omega, by decide, rfl, rfl, rfl⟩, ?_⟩⟩
    rintro n' vs g ⟨i, n, rfl, hi, hn0, hn1, hr, rfl, rfl⟩
    refine BIf.mk (fun h5 => ?_) (fun h5 => ?_)
    · have hlt : i < l.length := by simp [hsz] at h5; omega
      have hp := pow10_le (i := i) (by omega)
      have hstep : numA n (l.drop i) = if (l[i]).toNat < 48 ∨ 57 < (l[i]).toNat then -1 else numA (n * 10 + (((l[i]).toNat : Int) - 48)) (l.drop (i + 1)) := by
        rw [List.drop_eq_getElem_cons hlt]; rfl
      refine IdxX.mk (by omega) (by rw [hsz]; omega) ?_
      rw [show ((i : Int)).toNat = i from rfl, strB_at hlt]
      refine BIf.mk (fun h6 => ?_) (fun h6 => ?_)
      · repeat (first | refine BIf.yes rfl ?_ | refine BIf.no rfl ?_)
        have h6 : (l[i]).toNat < 48 := by simp at h6; omega
        rw [hr, hstep, if_pos (.inl h6)]
        exact FinX.keep hw (Le.refl _) rfl ⟨rfl, rfl⟩
      have h6 : ¬ (l[i]).toNat < 48 := by simp at h6; omega
      refine IdxX.mk (by omega) (by rw [hsz]; omega) ?_
      rw [show ((i : Int)).toNat = i from rfl, strB_at hlt]
      repeat (first | refine BIf.yes rfl ?_ | refine BIf.no rfl ?_)
      refine BIf.mk (fun h7 => ?_) (fun h7 => ?_)
      · have h7 : 57 < (l[i]).toNat := by simp at h7; omega
        rw [hr, hstep, if_pos (.inr h7)]
        exact FinX.keep hw (Le.refl _) rfl ⟨rfl, rfl⟩
      have h7 : ¬ 57 < (l[i]).toNat := by simp at h7; omega
      rw [if_neg (by omega)] at hstep
      refine WR.i64 ?_
      refine IdxX.mk (by omega) (by rw [hsz]; omega) ?_
      rw [show ((i : Int)).toNat = i from rfl, strB_at hlt]
      refine WR.u8 ?_
      refine WR.i64 ?_
      refine WR.i64 ?_
      refine WR.as (r := ((i + 1 : Nat) : Int)) (by omega) ?_
      exact ⟨l.length - (i + 1), by omega, i + 1, _, rfl, hlt, by omega, by rw [Int.pow_succ]; omega, hr.trans hstep, rfl, rfl⟩
    have hi2 : i = l.length := by simp [hsz] at h5; omega
    subst hi2
    rw [List.drop_length] at hr
    rw [hr]
    exact FinX.keep hw (Le.refl _) rfl ⟨rfl, rfl⟩
  repeat (first | refine BIf.yes rfl ?_ | refine BIf.no rfl ?_)
  have h3 : ¬ 1 < l.length := by simp [hsz] at h3; omega
  rw [main (fun hh => by
    rcases hh with hh | hh | ⟨hh, _⟩
    · exact h1 hh
    · exact h2 hh
    · exact h3 hh)]
  refine ⟨⟨[0, 3, 4], fun n' vs g => ∃ (i : Nat) (n : Int), n' = l.length - i ∧ i ≤ l.length ∧ 0 ≤ n ∧ n + 1 ≤ 10 ^ i ∧ numA 0 l = numA n (l.drop i) ∧ g = h ∧
    vs = [str l, .int .i64 n, .int .i64 i], _, ⟨0, 0, rfl, Nat.zero_le _, by omega, by decide, rfl, rfl, rfl⟩, ?_⟩⟩
  rintro n' vs g ⟨i, n, rfl, hi, hn0, hn1, hr, rfl, rfl⟩
  refine BIf.mk (fun h5 => ?_) (fun h5 => ?_)
  · have hlt : i < l.length := by simp [hsz] at h5; omega
    have hp := pow10_le (i := i) (by omega)
    have hstep : numA n (l.drop i) = if (l[i]).toNat < 48 ∨ 57 < (l[i]).toNat then -1 else numA (n * 10 + (((l[i]).toNat : Int) - 48)) (l.drop (i + 1)) := by
      rw [List.drop_eq_getElem_cons hlt]; rfl
    refine IdxX.mk (by omega) (by rw [hsz]; omega) ?_
    rw [show ((i : Int)).toNat = i from rfl, strB_at hlt]
    refine BIf.mk (fun h6 => ?_) (fun h6 => ?_)
    · repeat (first | refine BIf.yes rfl ?_ | refine BIf.no rfl ?_)
      have h6 : (l[i]).toNat < 48 := by simp at h6; omega
      rw [hr, hstep, if_pos (.inl h6)]
      exact FinX.keep hw (Le.refl _) rfl ⟨rfl, rfl⟩
    have h6 : ¬ (l[i]).toNat < 48 := by simp at h6; omega
    refine IdxX.mk (by omega) (by rw [hsz]; omega) ?_
    rw [show ((i : Int)).toNat = i from rfl, strB_at hlt]
    repeat (first | refine BIf.yes rfl ?_ | refine BIf.no rfl ?_)
    refine BIf.mk (fun h7 => ?_) (fun h7 => ?_)
    · have h7 : 57 < (l[i]).toNat := by simp at h7; omega
      rw [hr, hstep, if_pos (.inr h7)]
      exact FinX.keep hw (Le.refl _) rfl ⟨rfl, rfl⟩
    have h7 : ¬ 57 < (l[i]).toNat := by simp at h7; omega
    rw [if_neg (by omega)] at hstep
    refine WR.i64 ?_
    refine IdxX.mk (by omega) (by rw [hsz]; omega) ?_
    rw [show ((i : Int)).toNat = i from rfl, strB_at hlt]
    refine WR.u8 ?_
    refine WR.i64 ?_
    refine WR.i64 ?_
    refine WR.as (r := ((i + 1 : Nat) : Int)) (by omega) ?_
    exact ⟨l.length - (i + 1), by omega, i + 1, _, rfl, hlt, by omega, by rw [Int.pow_succ]; omega, hr.trans hstep, rfl, rfl⟩
  have hi2 : i = l.length := by simp [hsz] at h5; omega
  subst hi2
  rw [List.drop_length] at hr
  rw [hr]
  exact FinX.keep hw (Le.refl _) rfl ⟨rfl, rfl⟩

end Go.Gl

set_option linter.unusedVariables false
set_option linter.unusedSimpArgs false
namespace Go.Gl
open Go.Proofs Go.Proofs.YthhilbeddkkigaaDoor Go.Pl Go.RowKit

/-- a row of bars of our own, and whether it was read -/
def ReadB (ty : TypeId) (h : AH) (l : List UInt8) (r : Value) (h' : AH) : Prop := ∃ (v : Value) (b k : Nat) (cells : List Value) (ok : Bool), r = .tuple #[v, .bool ok] ∧ NS h' ty 3 b v k cells ∧ h.length ≤ b ∧ Le h h' ∧
  (ok = true → k = (parseB l).1.length ∧ cells = cellsB (parseB l).1 ∧ (parseB l).2 = 0) ∧ (ok = false → parseB l = ([], 6))
section
variable {h0 h : AH} {Rs : List Res} {l : List UInt8}
theorem SepM.readB (S : Sep h0.length h0 h Rs) (j : Nat) {e : TypeId} {v : Value} {k : Nat} {cells : List Value} {ok : Bool} (hj : gt Rs j = some (.rc e 3 h0.length v k cells)) (h1 : ok = true → k = (parseB l).1.length ∧ cells = cellsB (parseB l).1 ∧ (parseB l).2 = 0) (h2 : ok = false → parseB l = ([], 6)) : FinX h0 (ReadB e h0 l) (.tuple #[v, .bool ok]) h := by
  obtain ⟨F, b, g1, g2⟩ := S.get hj
  exact FinX.here S.le.len ⟨v, b, k, cells, ok, rfl, g1.only, g2, S.le, h1, h2⟩
theorem SepM.noB (S : Sep h0.length h0 h Rs) {e : TypeId} (hn : parseB l = ([], 6)) : FinX h0 (ReadB e h0 l) (.tuple #[.slice none 0 0, .bool false]) h :=
  FinX.here S.le.len ⟨_, h0.length, 0, [], false, rfl, .inr ⟨rfl, rfl, rfl⟩, Nat.le_refl _, S.le, (fun h => by cases h), fun _ => hn⟩
end
theorem neq_str {a : List UInt8} {v : Bool} (h : (!((⟨a.toArray⟩ : ByteArray).toList == (⟨([] : List UInt8).toArray⟩ : ByteArray).toList)) = v) : decide (a ≠ []) = v := by
  rw [str_eq] at h
  rw [← h]
  by_cases e : a = [] <;> simp [e]
theorem ne2_t {n : Nat} (h : (!((n : Int) == 2)) = true) : n ≠ 2 := by simp at h; omega
theorem ne2_f {n : Nat} (h : (!((n : Int) == 2)) = false) : n = 2 := by simp at h; omega

theorem l09Read_c (h : AH) (l : List UInt8) (hs : l.length ≤ 1048576) : ACalls Tryd.prog 14 [str l] h (ReadB 45 h l) := by
  refine ACalls.of Tt.tab Tryd.func14 rfl (by kernel_rfl) Tryd.ntmps14 _ rfl rfl (fun hw => ?_)
  have S := Sep.start h
  refine S.new fun bo g S => ?_
  have S := S.bx_rc 0 (k := 0) rfl rfl
  refine BIf.mk (fun h1 => ?_) (fun h1 => ?_)
  · have h1 : l = [] := of_decide_eq_true ((str_eq l []).symm.trans h1)
    subst h1
    exact S.readB 0 rfl (fun _ => by rw [parseB_nil]; exact ⟨rfl, rfl, rfl⟩) (fun h => by cases h)
  have h1 : l ≠ [] := of_decide_eq_false ((str_eq l []).symm.trans h1)
  refine CallX.same (l01Split_c g l 44 44 rfl hs) ?_
  rintro r g ⟨bw, rfl, lw, gw, ll⟩
  have S := S.box ll lw gw
  have hwl := splitC_len 44 l
  have hbad : ∀ k, k < (splitC 44 l).length → wordS ((splitC 44 l).getD k []) = none → parseB l = ([], 6) := fun k hk e => parseB_bad (fun x s => wordS_word s) h1 (getD_mem hk) e
  have hall : ∀ xs : List SBar, (splitC 44 l).map wordS = xs.map some → areBars xs = false → parseB l = ([], 6) := fun xs e hn => parseB_read (fun x s => wordS_word s) h1 e (by rw [hn]; simp)
  have hgood : ∀ xs : List SBar, (splitC 44 l).map wordS = xs.map some → areBars xs = true → parseB l = (xs, 0) := fun xs e hn => parseB_strict e hn
  have hword : ∀ k, k < (splitC 44 l).length → ((splitC 44 l).getD k []).length ≤ 1048576 := fun k hk => Nat.le_trans (splitC_word (getD_mem hk)) hs
  generalize hws : splitC 44 l = ws at *
  refine ⟨⟨[4, 5, 6], fun n' vs g => ∃ (i : Nat) (A : Option Addr) (c : Nat) (xs : List SBar), n' = ws.length - i ∧ i ≤ ws.length ∧ (ws.take i).map wordS = xs.map some ∧
    Sep h.length h g [.bx bw 9 1 (ws.map str), .rc 45 3 h.length (.slice A i c) i (cellsB xs)] ∧
    vs = [.slice A i c, .slice (some ⟨bw, 0, none⟩) ws.length 1, .int .i64 i], _, ⟨0, _, _, [], rfl, Nat.zero_le _, rfl, S, rfl⟩, ?_⟩⟩
  clear S
  rintro n' vs g ⟨i, A, c, xs, rfl, hi, hr, S, rfl⟩
  have hxl := read_len hi hr
  refine BIf.mk (fun h2 => ?_) (fun h2 => ?_)
  · have hlt : i < ws.length := by simpa using h2
    have hw1 := hword i hlt
    have hb1 := hbad i hlt
    have hr1 := fun x => take_read (x := x) hlt hr
    refine IdxX.mk (by omega) (by omega) ?_
    refine LoadX.text (k := i) (S.at_ 0 rfl) hlt ?_
    generalize ws.getD i [] = w at *
    refine CallX.same (l01Split_c g w 58 58 rfl hw1) ?_
    rintro r g ⟨b2, rfl, l2, g2, ll⟩
    have S := S.box ll l2 g2
    refine BIf.mk (fun h3 => ?_) (fun h3 => ?_)
    · have h3 : (splitC 58 w).length ≠ 2 := ne2_t h3
      exact S.noB (hb1 (if_neg fun hh => h3 hh.1))
    have h3 : (splitC 58 w).length = 2 := ne2_f h3
    refine IdxX.mk (by omega) (by omega) ?_
    refine LoadX.text (k := 1) (S.at_ 0 rfl) (by omega) ?_
    have hR : ((splitC 58 w).getD 1 []).length ≤ 1048576 := Nat.le_trans (splitC_word (getD_mem (by omega))) hw1
    have hD : ((splitC 58 w).getD 0 []).length ≤ 1048576 := Nat.le_trans (splitC_word (getD_mem (by omega))) hw1
    refine CallX.same (l01Split_c g ((splitC 58 w).getD 1 []) 45 45 rfl hR) ?_
    rintro r g ⟨b3, rfl, l3, g3, ll⟩
    have S := S.box ll l3 g3
    have hun : wordS w = if (splitC 58 w).length = 2 ∧ (splitC 45 ((splitC 58 w).getD 1 [])).length = 2 then
        (if (splitC 45 ((splitC 58 w).getD 1 [])).getD 1 [] = [] then some ⟨numB ((splitC 58 w).getD 0 []), numB ((splitC 45 ((splitC 58 w).getD 1 [])).getD 0 []), -1⟩
        else if numB ((splitC 45 ((splitC 58 w).getD 1 [])).getD 1 []) < 0 then none
        else some ⟨numB ((splitC 58 w).getD 0 []), numB ((splitC 45 ((splitC 58 w).getD 1 [])).getD 0 []), numB ((splitC 45 ((splitC 58 w).getD 1 [])).getD 1 [])⟩)
      else none := rfl
    refine BIf.mk (fun h4 => ?_) (fun h4 => ?_)
    · have h4 : (splitC 45 ((splitC 58 w).getD 1 [])).length ≠ 2 := ne2_t h4
      exact S.noB (hb1 (hun.trans (if_neg fun hh => h4 hh.2)))
    have h4 : (splitC 45 ((splitC 58 w).getD 1 [])).length = 2 := ne2_f h4
    rw [if_pos ⟨h3, h4⟩] at hun
    have hB : ((splitC 45 ((splitC 58 w).getD 1 [])).getD 0 []).length ≤ 1048576 := Nat.le_trans (splitC_word (getD_mem (by omega))) hR
    have hE : ((splitC 45 ((splitC 58 w).getD 1 [])).getD 1 []).length ≤ 1048576 := Nat.le_trans (splitC_word (getD_mem (by omega))) hR
    refine DrawX.of Tt.tab follows_any [9] [10] [0, 1, 2, 3, 4, 5, 6, 7, 8, 9, 10] rfl (by kernel_rfl) (by kernel_rfl) ?_
    refine IdxX.mk (by omega) (by omega) ?_
    refine LoadX.text (k := 0) (S.at_ 1 rfl) (by omega) ?_
    refine QCall.of (fun g2 hl => l01Number_c g2 _ hD) rfl ?_
    refine IdxX.mk (by omega) (by omega) ?_
    refine LoadX.text (k := 0) (S.at_ 0 rfl) (by omega) ?_
    refine QCall.of (fun g2 hl => l01Number_c g2 _ hB) rfl ?_
    have k1 : 1 < (splitC 45 ((splitC 58 w).getD 1 [])).length := by omega
    generalize (splitC 58 w).getD 0 [] = D at *
    generalize splitC 45 ((splitC 58 w).getD 1 []) = ends at *
    generalize hB' : ends.getD 0 [] = B at *
    generalize hE' : ends.getD 1 [] = E at *
    refine S.newL fun bc g LL S => ⟨LL, strictV.mk ?_⟩
    refine S.put 0 rfl fun g S => ?_
    have S := S.recast 0 (cells' := [.int .i64 (numB D), .int .i64 (numB B), .int .i64 (-1)]) rfl rfl
    refine IdxX.mk (by omega) (by omega) ?_
    refine LoadX.text (k := 1) (S.at_ 1 rfl) k1 ?_
    rw [hE']
    refine BIf.mk (fun h5 => ?_) (fun h5 => ?_)
    · have h5 : E ≠ [] := of_decide_eq_true (neq_str h5)
      rw [if_neg h5] at hun
      refine IdxX.mk (by omega) (by omega) ?_
      refine LoadX.text (k := 1) (S.at_ 1 rfl) k1 ?_
      rw [hE']
      refine CallX.same (l01Number_c _ E hE) ?_
      rintro r g' ⟨rfl, rfl⟩
      refine S.put 0 rfl fun g S => ?_
      have S := S.recast 0 (cells' := [.int .i64 (numB D), .int .i64 (numB B), .int .i64 (numB E)]) rfl rfl
      refine LoadX.same (S.at_ 0 rfl) rfl ?_
      refine BIf.mk (fun h6 => ?_) (fun h6 => ?_)
      · have h6 : numB E < 0 := by simpa using h6
        rw [if_pos h6] at hun
        exact S.noB (hb1 hun)
      have h6 : ¬ numB E < 0 := by simpa using h6
      rw [if_neg h6] at hun
      refine LoadX.same (S.at_ 0 rfl) rfl ?_
      refine S.new fun bn g S => ?_
      refine S.app 4 rfl rfl rfl (by omega) fun b' g S => ?_
      refine WR.as (r := ((i + 1 : Nat) : Int)) (by omega) ?_
      have S := S.tail.tail.tail
      exact ⟨ws.length - (i + 1), by omega, i + 1, _, _, _, rfl, hlt, hr1 _ hun, S.eq (by rw [← cellsB_snoc]; rfl), rfl⟩
    · have h5 : E = [] := Classical.byContradiction fun e => of_decide_eq_false (neq_str h5) e
      rw [if_pos h5] at hun
      refine LoadX.same (S.at_ 0 rfl) rfl ?_
      refine S.new fun bn g S => ?_
      refine S.app 4 rfl rfl rfl (by omega) fun b' g S => ?_
      refine WR.as (r := ((i + 1 : Nat) : Int)) (by omega) ?_
      have S := S.tail.tail.tail
      exact ⟨ws.length - (i + 1), by omega, i + 1, _, _, _, rfl, hlt, hr1 _ hun, S.eq (by rw [← cellsB_snoc]; rfl), rfl⟩
  have hi2 : i = ws.length := by simp at h2; omega
  subst hi2
  rw [List.take_length] at hr
  refine CallX.same (l09Are_c _ _ xs (S.rbRc 1 rfl hxl (by omega))) ?_
  rintro r g' ⟨rfl, rfl⟩
  cases ha : areBars xs
  · exact S.readB 1 rfl (fun h => by cases h) fun _ => hall xs hr ha
  · exact S.readB 1 rfl (fun _ => by rw [hgood xs hr ha]; exact ⟨hxl.symm, rfl, rfl⟩) fun h => by cases h

theorem parseBarsS_c (h : AH) (l : List UInt8) (hs : l.length ≤ 1048576) : ACalls Tryd.prog 5 [str l] h (MadeRC 45 3 h (parseB l).1.length (cellsB (parseB l).1) (parseB l).2) := by
  refine ACalls.of Tt.tab Tryd.func5 rfl (by kernel_rfl) Tryd.ntmps5 _ rfl rfl (fun hw => ?_)
  refine CallX.same (l09Read_c h l hs) ?_
  rintro r g ⟨v, b, k, cells, ok, rfl, hn, hb, ll, h1, h2⟩
  rcases hn with ⟨rfl, hn1, hn2⟩ | ⟨rfl, hn1, hn2⟩
  · cases ok
    · refine BIf.yes rfl ?_
      rw [h2 rfl]
      exact ((Sep.start h).grow ll).nilRC
    · refine BIf.no rfl ?_
      obtain ⟨rfl, rfl, h3⟩ := h1 rfl
      rw [h3]
      exact FinX.here ll.len ⟨_, b, rfl, .inl ⟨rfl, hn1, hn2⟩, hb, ll⟩
  · cases ok
    · refine BIf.yes rfl ?_
      rw [h2 rfl]
      exact ((Sep.start h).grow ll).nilRC
    · refine BIf.no rfl ?_
      obtain ⟨e1, e2, h3⟩ := h1 rfl
      rw [h3, ← e1, ← e2]
      exact FinX.here ll.len ⟨_, b, rfl, .inr ⟨rfl, hn1, hn2⟩, hb, ll⟩

end Go.Gl

set_option linter.unusedVariables false
set_option linter.unusedSimpArgs false
namespace Go.Gl
open Go.Proofs Go.Proofs.YthhilbeddkkigaaDoor Go.Pl Go.RowKit


theorem FnExactParseBars_law (h : AH) (b0 b1 b2 : Nat) (G : Glb h b0 b1 b2) (s : ByteArray) : ACalls Tryd.prog 3 [.string s] h (fun r h' => r = .bool true ∧ h' = h) := by
  obtain ⟨l, rfl⟩ : ∃ l : List UInt8, s = ⟨l.toArray⟩ := ⟨s.data.toList, by simp⟩
  have hsz := str_size l
  refine ACalls.of Tt.tab Tryd.func3 rfl (by kernel_rfl) Tryd.ntmps3 _ rfl rfl (fun hw => ?_)
  have S := Sep.start h
  refine BIf.mk (fun h1 => ?_) (fun h1 => ?_)
  · exact FinX.keep hw S.le rfl ⟨rfl, rfl⟩
  have c1 : l.length ≤ 1048576 := by simp [hsz] at h1; omega
  have pl := parseB_len l
  refine S.madeRC (parseBarsS_c _ l c1) fun AW cW g _ S => ?_
  refine S.madeRC (parseBarsI_c _ b0 b1 b2 (G.le S.le) l c1) fun AG cG g _ S => ?_
  refine CallX.same (eqBarS_c _ _ _ _ _ (S.rbRc 0 rfl rfl (by omega)) (S.rbRc 1 rfl rfl (by omega))) ?_
  rintro r g ⟨rfl, rfl⟩
  refine BIf.no (by simp) ?_
  refine BIf.no (by simp) ?_
  refine S.rcDo 0 (cells' := cellsB (markL 1 (parseB l).1.length)) (r0 := .int .i64 (1 + 3 * (parseB l).1.length)) rfl (by rw [cellsB_length, markL_length]) (fun hA hk hc => ?_) (fun b hA hl => ?_) fun g S => ?_
  · subst hA hc
    rw [hk]
    exact mark0_c _ 1
  · subst hA
    exact markB_c _ b cG _ 1 hl (by omega) (by omega)
  refine CallX.same (heldB_c _ _ 1 _ (S.rbRc 0 rfl (markL_length _ _) (by omega)) (by omega) (by omega)) ?_
  rintro r g ⟨rfl, rfl⟩
  refine BIf.no (by simp; omega) ?_
  refine BIf.no (by simp) ?_
  refine S.madeRC (parseBarsI_c _ b0 b1 b2 (G.le S.le) l c1) fun AH cH g _ S => ?_
  refine CallX.same (eqBarS_c _ _ _ _ _ (S.rbRc 0 rfl rfl (by omega)) (S.rbRc 2 rfl rfl (by omega))) ?_
  rintro r g ⟨rfl, rfl⟩
  refine BIf.no (by simp) ?_
  refine BIf.no (by simp) ?_
  refine CallX.same (heldB_c _ _ 1 _ (S.rbRc 1 rfl (markL_length _ _) (by omega)) (by omega) (by omega)) ?_
  rintro r g ⟨rfl, rfl⟩
  refine BIf.no (by simp; omega) ?_
  refine BIf.no (by simp) ?_
  exact FinX.keep hw S.le rfl ⟨rfl, rfl⟩

theorem cell_row {w : World} {c : Nat} {u : Value} (h : w.cell? ⟨c, 0, none⟩ = some u) : ∃ cs e fr, w.heap[c]? = some (.cells cs e fr) ∧ cs[0]? = some u := by
  unfold World.cell? at h
  split at h
  · rename_i cs e fr hh
    exact ⟨_, _, _, hh, by simpa using h⟩
  · cases h
theorem start_glob {W : World} {u0 u1 u2 : Value} (h0 : W.cell? ⟨0, 0, none⟩ = some u0) (k0 : GK 0 u0) (h1 : W.cell? ⟨1, 0, none⟩ = some u1) (k1 : GK 1 u1) (h2 : W.cell? ⟨2, 0, none⟩ = some u2) (k2 : GK 1 u2) : ∃ ι h, HR ι h W ∧ Imm h ∧ Glb h 0 1 2 := by
  obtain ⟨cs0, e0, f0, a0, b0⟩ := cell_row h0
  obtain ⟨cs1, e1, f1, a1, b1⟩ := cell_row h1
  obtain ⟨cs2, e2, f2, a2, b2⟩ := cell_row h2
  obtain ⟨hr, im, _⟩ := HR.glob (HR.empty W) Imm.empty a0 b0 k0
  obtain ⟨hr, im, _⟩ := HR.glob hr im a1 b1 k1
  obtain ⟨hr, im, _⟩ := HR.glob hr im a2 b2 k2
  exact ⟨_, _, hr, im, rfl, rfl, rfl⟩
/-- an error among the variables that the row lists -/
theorem laid_err {P : Program} {W : World} {g t tp te : Nat} {n nm : String} {d : DataW Unit} {cs : Array Value} {fuel : Nat} {p : List MemPlace} {ms : Array (String × TypeId)} (hg : P.globalNamed n = some g) (hv : W.var? P n = some cs)
    (hi : P.underlying t = some (.interface ms)) (hrow : ∀ u, P.typeName? 3 u = some nm → u = tp) (hp : P.underlying tp = some (.pointer te))
    (h : DataW.trod (fun _ => ()) P W 0 (fun _ => true) false fuel t cs.toList = some (.iface nm (.ptr d), p)) : ∃ u, W.cell? ⟨g, 0, none⟩ = some u ∧ GK 1 u := by
  obtain ⟨f1, u, v, e, hn, h1⟩ := iface_of_trod hi h
  obtain rfl := hrow u hn
  obtain ⟨f2, a, cs', q, hv', _, _, _⟩ := ptr_of_trod hp h1
  refine ⟨.iface u v, ?_, .inr ⟨rfl, .inr ⟨u, v, rfl, fun a e => ?_⟩⟩⟩
  · have := World.var?_cell hg hv 0
    rw [this]
    obtain ⟨l⟩ := cs
    simp only at e
    subst e
    rfl
  · subst e
    simp [Value.cells] at hv'
section
variable {H : Type} {enc : TypeId × Value → H}
theorem handed_and_shaped {a : Assume} {C : Checked} {os : Os} {f : FuncId} {fn : Func} {s : ChangeSpec} {conds : List PathCond} {apart fresh handsOn again : Bool} {X : World → Array Value → Prop}
    (hX : ∀ (w w' : World) (args : Array Value), w.heap = w'.heap → X w args → X w' args)
    (own : ownKnob C.prog.godebug = none) (started : os.Started) (noInit : C.prog.inits.idxOf? f = none) (hfn : C.prog.funcs[f]? = some fn)
    (witness : ∃ (w : World) (tape : Tape) (i : Input), w.os = os ∧ (w.forCall tape i).Shaped C.prog ∧ i.vars = [] ∧ Input.okWide C.prog (w.forCall tape i) .any w.heap.size f i ∧
      ((s.pre enc C.prog fn conds apart (w.forCall tape i).memory i.args ∧ X (w.forCall tape i).memory i.args) ∧ sizedMet enc C.prog fn (OpenSpec.ofChange s) apart (w.forCall tape i).memory i.args) ∧ a.holds C.prog (lone (Frame.enter C.prog f i.args .normal) [] (w.forCall tape i)))
    (contract : ∀ (W : World) (base : Nat) (args : Array Value) (ds gs : List (DataW H)) (before : List MemPlace),
      (∀ (j : Nat) t v, fn.params[j]? = some t → args[j]? = some v → Value.okWide C.prog W .any base t v) →
      DataW.Whole enc C.prog fn.params.toList s.vars apart W args.toList ds gs before →
      X W args → W.ShapedOpen C.prog →
      Calls C.prog f args W fun e W' => ∃ v, e = .returned v ∧ s.post enc C.prog fn apart fresh handsOn again W args v W') :
    ReturnsInHanded a C os f .any (fun w args => (s.pre enc C.prog fn conds apart w args ∧ X w args) ∧ sizedMet enc C.prog fn (OpenSpec.ofChange s) apart w args) (s.post enc C.prog fn apart fresh handsOn again) := by
  refine returnsInHanded_of_calls own started noInit witness ?_
  intro w tape i _ hsh _ hok hpre hholds
  obtain ⟨_, _, _, fn', hfn', _, _, _, _, hval⟩ := hok
  have e : fn' = fn := Option.some.inj (hfn'.symm.trans hfn)
  subst e
  obtain ⟨⟨⟨ds, gs, before, hw, hc⟩, hx⟩, hz⟩ := hpre
  have hw' := DataW.Whole.of_heap (w' := w.forCall tape i) (by rfl) hw
  refine (contract (w.forCall tape i) w.heap.size i.args ds gs before hval hw' (hX _ _ _ (by rfl) hx) hsh).mono fun e W' ⟨v, he, hp⟩ => ?_
  subst he
  exact ChangeSpec.post_blind hp
end
end Go.Gl
