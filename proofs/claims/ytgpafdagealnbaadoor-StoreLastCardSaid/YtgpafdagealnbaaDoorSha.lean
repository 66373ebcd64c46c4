/- Sha256 in plain Lean: words of 32 digits. No program stands in this text. -/
import Derived.Test.YtgpafdagealnbaaDoorBase
import Derived.Laws.BitsAllLaws
namespace Go.Proofs.YtgpafdagealnbaaDoor
open Go.RowKit

/-- A word turned right. -/
def rotr (x : UInt32) (n : Nat) : UInt32 := UInt32.ofNat ((x.toNat / 2 ^ n) ||| (x.toNat * 2 ^ (32 - n) % 4294967296))
def shr32 (x : UInt32) (n : Nat) : UInt32 := UInt32.ofNat (x.toNat / 2 ^ n)
def sm (x : UInt32) (a b c : Nat) : UInt32 := rotr x a ^^^ rotr x b ^^^ shr32 x c
def bg (x : UInt32) (a b c : Nat) : UInt32 := rotr x a ^^^ rotr x b ^^^ rotr x c

theorem lt32 (x : UInt32) : x.toNat < 4294967296 := x.toNat_lt
theorem rotr_toNat (x : UInt32) (n : Nat) : (rotr x n).toNat = (x.toNat / 2 ^ n) ||| (x.toNat * 2 ^ (32 - n) % 4294967296) := by
  unfold rotr
  rw [UInt32.toNat_ofNat']
  apply Nat.mod_eq_of_lt
  apply Nat.or_lt_two_pow (n := 32)
  · exact Nat.lt_of_le_of_lt (Nat.div_le_self _ _) x.toNat_lt
  · exact Nat.mod_lt _ (by decide)
theorem shr32_toNat (x : UInt32) (n : Nat) : (shr32 x n).toNat = x.toNat / 2 ^ n := by
  unfold shr32
  rw [UInt32.toNat_ofNat']
  exact Nat.mod_eq_of_lt (Nat.lt_of_le_of_lt (Nat.div_le_self _ _) x.toNat_lt)
/-- A word as the model has it. -/
abbrev u32v (x : UInt32) : Value := .int .u32 (x.toNat : Int)
theorem xor32 (a b : UInt32) : bits .xor .u32 (a.toNat : Int) (b.toNat : Int) = ((a ^^^ b).toNat : Int) := by
  rw [u32_xor_nat _ _ (lt32 a) (lt32 b), UInt32.toNat_xor]
theorem and32 (a b : UInt32) : bits .and .u32 (a.toNat : Int) (b.toNat : Int) = ((a &&& b).toNat : Int) := by
  rw [u32_and_nat _ _ (lt32 a) (lt32 b), UInt32.toNat_and]
theorem or32 (a b : UInt32) : bits .or .u32 (a.toNat : Int) (b.toNat : Int) = ((a ||| b).toNat : Int) := by
  rw [u32_or_nat _ _ (lt32 a) (lt32 b), UInt32.toNat_or]
theorem add32 (a b : UInt32) : ((a.toNat : Int) + (b.toNat : Int)) % 4294967296 = ((a + b).toNat : Int) := by
  rw [UInt32.toNat_add]; omega
theorem add32_4 (a b c d : UInt32) : ((a.toNat : Int) + (b.toNat : Int) + (c.toNat : Int) + (d.toNat : Int)) % 4294967296 = ((a + b + c + d).toNat : Int) := by
  rw [UInt32.toNat_add, UInt32.toNat_add, UInt32.toNat_add]; omega
theorem rotr_int (x : UInt32) (n : Nat) : bits .or .u32 ((x.toNat : Int) / 2 ^ n) ((x.toNat : Int) * 2 ^ (32 - n) % 4294967296) = ((rotr x n).toNat : Int) := by
  rw [rotr_toNat, show (x.toNat : Int) / 2 ^ n = ((x.toNat / 2 ^ n : Nat) : Int) by simp, show (x.toNat : Int) * 2 ^ (32 - n) % 4294967296 = ((x.toNat * 2 ^ (32 - n) % 4294967296 : Nat) : Int) by simp]
  exact u32_or_nat _ _ (Nat.lt_of_le_of_lt (Nat.div_le_self _ _) x.toNat_lt) (Nat.mod_lt _ (by decide))
theorem shr_int (x : UInt32) (n : Nat) : ((shr32 x n).toNat : Int) = (x.toNat : Int) / 2 ^ n := by
  rw [shr32_toNat]; simp
theorem sm_int (x : UInt32) (a b c : Nat) : bits .xor .u32 (bits .xor .u32 ((rotr x a).toNat : Int) ((rotr x b).toNat : Int)) ((x.toNat : Int) / 2 ^ c) = ((sm x a b c).toNat : Int) := by
  unfold sm; rw [xor32, ← shr_int, xor32]
theorem bg_int (x : UInt32) (a b c : Nat) : bits .xor .u32 (bits .xor .u32 ((rotr x a).toNat : Int) ((rotr x b).toNat : Int)) ((rotr x c).toNat : Int) = ((bg x a b c).toNat : Int) := by
  unfold bg; rw [xor32, xor32]

/-! ### A block's words -/
def push8 (x : UInt32) (c : UInt8) : UInt32 := UInt32.ofNat (x.toNat * 256 + c.toNat)
theorem push8_toNat (x : UInt32) (c : UInt8) : (push8 x c).toNat = (x.toNat * 256 + c.toNat) % 4294967296 := by
  unfold push8; rw [UInt32.toNat_ofNat']
theorem push8_int (x : UInt32) (c : UInt8) : bits .or .u32 ((x.toNat : Int) * 256 % 4294967296) (c.toNat : Int) = ((push8 x c).toNat : Int) := by
  have hc := c.toNat_lt
  rw [push8_toNat, show (x.toNat : Int) * 256 % 4294967296 = ((x.toNat * 256 % 4294967296 : Nat) : Int) by simp]
  rw [u32_or_nat _ _ (Nat.mod_lt _ (by decide)) (by omega)]
  congr 1
  rw [nat_join 8 _ _ (by omega) (by omega)]
  omega
/-- Word number t of a block's bytes. -/
def be32 (b : List UInt8) (t : Nat) : UInt32 := ((b.drop (4 * t)).take 4).foldl push8 0
/-- The first n of a block's words. -/
def sched (b : List UInt8) : Nat → List UInt32
  | 0 => []
  | n + 1 => sched b n ++ [if n < 16 then be32 b n else (sched b n).getD (n - 16) 0 + sm ((sched b n).getD (n - 15) 0) 7 18 3 + (sched b n).getD (n - 7) 0 + sm ((sched b n).getD (n - 2) 0) 17 19 10]
theorem sched_length (b : List UInt8) (n : Nat) : (sched b n).length = n := by
  induction n with
  | zero => rfl
  | succ n ih => simp [sched, ih]
/-- Word number t of a block. -/
def wd (b : List UInt8) (t : Nat) : UInt32 := (sched b (t + 1)).getD t 0
theorem sched_getD (b : List UInt8) (n t : Nat) (h : t < n) : (sched b n).getD t 0 = wd b t := by
  induction n with
  | zero => omega
  | succ n ih =>
    by_cases e : t = n
    · subst e; rfl
    · rw [← ih (by omega)]
      simp only [sched, List.getD_eq_getElem?_getD]
      rw [List.getElem?_append_left (by rw [sched_length]; omega)]
theorem wd_lo (b : List UInt8) (t : Nat) (h : t < 16) : wd b t = be32 b t := by
  unfold wd
  simp only [sched, List.getD_eq_getElem?_getD]
  rw [List.getElem?_append_right (by rw [sched_length]; omega), sched_length]
  simp [h]
theorem wd_hi (b : List UInt8) (t : Nat) (h : 16 ≤ t) : wd b t = wd b (t - 16) + sm (wd b (t - 15)) 7 18 3 + wd b (t - 7) + sm (wd b (t - 2)) 17 19 10 := by
  conv => lhs; unfold wd
  simp only [sched, List.getD_eq_getElem?_getD]
  rw [List.getElem?_append_right (by rw [sched_length]; omega), sched_length]
  simp only [Nat.sub_self, List.getElem?_cons_zero, Option.getD_some]
  rw [if_neg (by omega)]
  simp only [← List.getD_eq_getElem?_getD]
  rw [sched_getD _ _ _ (by omega), sched_getD _ _ _ (by omega), sched_getD _ _ _ (by omega), sched_getD _ _ _ (by omega)]

/-- The words of a block while they are made: k are done, of number k j bytes are in. -/
def wpart (b : List UInt8) (k j : Nat) (i : Nat) : UInt32 := if i < k then wd b i else if i = k then ((b.drop (4 * k)).take j).foldl push8 0 else 0
theorem wpart_next (b : List UInt8) (k : Nat) (hk : k < 16) (i : Nat) : wpart b k 4 i = wpart b (k + 1) 0 i := by
  unfold wpart
  by_cases h1 : i < k
  · rw [if_pos h1, if_pos (by omega)]
  · by_cases h2 : i = k
    · subst h2
      rw [if_neg h1, if_pos rfl, if_pos (by omega), wd_lo b _ hk]; rfl
    · rw [if_neg h1, if_neg h2, if_neg (by omega)]
      split <;> rfl
theorem wpart_push (b : List UInt8) (k j : Nat) (c : UInt8) (hc : b[4 * k + j]? = some c) (i : Nat) :
    wpart b k (j + 1) i = if i = k then push8 (wpart b k j k) c else wpart b k j i := by
  unfold wpart
  by_cases h2 : i = k
  · subst h2
    rw [if_neg (by omega), if_pos rfl, if_pos rfl, if_neg (by omega), if_pos rfl]
    have : (b.drop (4 * i))[j]? = some c := by rw [List.getElem?_drop]; exact hc
    rw [List.take_add_one, this]
    simp
  · by_cases h1 : i < k
    · simp [h1, h2]
    · simp [h1, h2]
theorem wpart_start (b : List UInt8) (i : Nat) : wpart b 0 0 i = 0 := by
  unfold wpart
  rw [if_neg (by omega)]
  split <;> rfl


/-! ### The rounds -/
def K64 : List Nat := [4794697086780616226, 8158064640168781261, 13096744586834688815, 16840607885511220156, 4131703408338449720, 6480981068601479193, 10538285296894168987, 12329834152419229976, 15566598209576043074, 1334009975649890238, 2608012711638119052, 6128411473006802146, 8268148722764581231, 9286055187155687089, 11230858885718282805, 13951009754708518548, 16472876342353939154, 17275323862435702243, 1135362057144423861, 2597628984639134821, 3308224258029322869, 5365058923640841347, 6679025012923562964, 8573033837759648693, 10970295158949994411, 12119686244451234320, 12683024718118986047, 13788192230050041572, 14330467153632333762, 15395433587784984357, 489312712824947311, 1452737877330783856, 2861767655752347644, 3322285676063803686, 5560940570517711597, 5996557281743188959, 7280758554555802590, 8532644243296465576, 9350256976987008742, 10552545826968843579, 11727347734174303076, 12113106623233404929, 14000437183269869457, 14369950271660146224, 15101387698204529176, 15463397548674623760, 17586052441742319658, 1182934255886127544, 1847814050463011016, 2177327727835720531, 2830643537854262169, 3796741975233480872, 4115178125766777443, 5681478168544905931, 6601373596472566643, 7507060721942968483, 8399075790359081724, 8693463985226723168, 9568029438360202098, 10144078919501101548, 10430055236837252648, 11840083180663258601, 13761210420658862357, 14299343276471374635, 14566680578165727644, 15097957966210449927, 16922976911328602910, 17689382322260857208, 500013540394364858, 748580250866718886, 1242879168328830382, 1977374033974150939, 2944078676154940804, 3659926193048069267, 4368137639120453308, 4836135668995329356, 5532061633213252278, 6448918945643986474, 6902733635092675308, 7801388544844847127]
def H64 : List Nat := [7640891576956012808, 13503953896175478587, 4354685564936845355, 11912009170470909681, 5840696475078001361, 11170449401992604703, 2270897969802886507, 6620516959819538809]
theorem K64_lt : ∀ i, K64.getD i 0 < 18446744073709551616 := by
  intro i
  rcases Nat.lt_or_ge i 80 with h | h
  · have : ∀ i : Fin 80, K64.getD i 0 < 18446744073709551616 := by decide
    exact this ⟨i, h⟩
  · rw [List.getD_eq_getElem?_getD, List.getElem?_eq_none (by simpa [K64] using h)]; decide
/-- A constant, a start. -/
def Kc (i : Nat) : Nat := K64.getD i 0
def Hc (i : Nat) : Nat := H64.getD i 0
theorem Kc_lt (i : Nat) : Kc i < 18446744073709551616 := K64_lt i
theorem Hc_lt (i : Nat) : Hc i < 18446744073709551616 := by
  unfold Hc
  rcases Nat.lt_or_ge i 8 with h | h
  · have : ∀ i : Fin 8, H64.getD i 0 < 18446744073709551616 := by decide
    exact this ⟨i, h⟩
  · rw [List.getD_eq_getElem?_getD, List.getElem?_eq_none (by simpa [H64] using h)]; decide
/-- A round's constant. -/
def K32 (i : Nat) : UInt32 := UInt32.ofNat (Kc i / 4294967296)
def H32 (i : Nat) : UInt32 := UInt32.ofNat (Hc i / 4294967296)
theorem K32_toNat (i : Nat) : (K32 i).toNat = Kc i / 4294967296 := by
  unfold K32
  rw [UInt32.toNat_ofNat']
  have := Kc_lt i
  omega
theorem H32_toNat (i : Nat) : (H32 i).toNat = Hc i / 4294967296 := by
  unfold H32
  rw [UInt32.toNat_ofNat']
  have := Hc_lt i
  omega
/-- The eight words. -/
structure R8 where
  a : UInt32
  b : UInt32
  c : UInt32
  d : UInt32
  e : UInt32
  f : UInt32
  g : UInt32
  h : UInt32
def v8 (v : R8) : Array Value := #[u32v v.a, u32v v.b, u32v v.c, u32v v.d, u32v v.e, u32v v.f, u32v v.g, u32v v.h]
@[go_sem] theorem v8_0 (v : R8) : (v8 v)[0]? = some (u32v v.a) := rfl
@[go_sem] theorem v8_1 (v : R8) : (v8 v)[1]? = some (u32v v.b) := rfl
@[go_sem] theorem v8_2 (v : R8) : (v8 v)[2]? = some (u32v v.c) := rfl
@[go_sem] theorem v8_3 (v : R8) : (v8 v)[3]? = some (u32v v.d) := rfl
@[go_sem] theorem v8_4 (v : R8) : (v8 v)[4]? = some (u32v v.e) := rfl
@[go_sem] theorem v8_5 (v : R8) : (v8 v)[5]? = some (u32v v.f) := rfl
@[go_sem] theorem v8_6 (v : R8) : (v8 v)[6]? = some (u32v v.g) := rfl
@[go_sem] theorem v8_7 (v : R8) : (v8 v)[7]? = some (u32v v.h) := rfl
theorem v8_one (r : R8) : ∀ v ∈ v8 r, v.oneCell' = true := by
  intro v hv
  simp [v8] at hv
  rcases hv with h | h | h | h | h | h | h | h <;> subst h <;> rfl
def T1 (v : R8) (k x : UInt32) : UInt32 := v.h + bg v.e 6 11 25 + ((v.e &&& v.f) ^^^ (~~~v.e &&& v.g)) + k + x
def T2 (v : R8) : UInt32 := bg v.a 2 13 22 + ((v.a &&& v.b) ^^^ (v.a &&& v.c) ^^^ (v.b &&& v.c))
def rnd (v : R8) (k x : UInt32) : R8 := ⟨T1 v k x + T2 v, v.a, v.b, v.c, v.d + T1 v k x, v.e, v.f, v.g⟩
def rounds (b : List UInt8) : Nat → R8 → R8
  | 0, v => v
  | n + 1, v => rnd (rounds b n v) (K32 n) (wd b n)
def addv (h v : R8) : R8 := ⟨h.a + v.a, h.b + v.b, h.c + v.c, h.d + v.d, h.e + v.e, h.f + v.f, h.g + v.g, h.h + v.h⟩
/-- A block put to the eight words. -/
def comp (h : R8) (b : List UInt8) : R8 := addv h (rounds b 64 h)
/-- The tables as they lie in memory. -/
structure Tabs (w : World) : Prop where
  k : ∀ i, i < 80 → w.cell? ⟨1, i, none⟩ = some (.int .u64 (Kc i : Int))
  h : ∀ i, i < 8 → w.cell? ⟨0, i, none⟩ = some (.int .u64 (Hc i : Int))
theorem Tabs.nb {w W : World} (h : Tabs w) (hn : NB w W) : Tabs W :=
  ⟨fun i hi => (hn.cell (p := ⟨1, i, none⟩) (World.block_lt_of_cell? w _ (h.k i hi))).trans (h.k i hi),
   fun i hi => (hn.cell (p := ⟨0, i, none⟩) (World.block_lt_of_cell? w _ (h.h i hi))).trans (h.h i hi)⟩
theorem Tabs.ext {w : World} (h : Tabs w) (x : Ext w) : Tabs x.val := h.nb x.nb
theorem not32 (a : UInt32) : bits .xor .u32 (if IntKind.u32.signed = true then -1 else IntKind.u32.max) (a.toNat : Int) = ((~~~a).toNat : Int) := by
  have h : (if IntKind.u32.signed = true then (-1 : Int) else IntKind.u32.max) = ((4294967295 : Nat) : Int) := by decide
  rw [h, u32_xor_nat _ _ (by decide) (lt32 a)]
  congr 1
theorem T1_int (v : R8) (k : Nat) (x : UInt32) :
    (((v.h.toNat : Int) + ((bg v.e 6 11 25).toNat : Int) +
      bits .xor .u32 (bits .and .u32 (v.e.toNat : Int) (v.f.toNat : Int))
        (bits .and .u32 (bits .xor .u32 (if IntKind.u32.signed = true then -1 else IntKind.u32.max) (v.e.toNat : Int)) (v.g.toNat : Int)) +
      (Kc k : Int) / 4294967296) % 4294967296 + (x.toNat : Int)) % 4294967296 = ((T1 v (K32 k) x).toNat : Int) := by
  rw [not32, and32, and32, xor32]
  unfold T1
  rw [UInt32.toNat_add, UInt32.toNat_add, UInt32.toNat_add, UInt32.toNat_add, K32_toNat]
  omega
theorem T2_int (v : R8) :
    (((bg v.a 2 13 22).toNat : Int) +
      bits .xor .u32 (bits .xor .u32 (bits .and .u32 (v.a.toNat : Int) (v.b.toNat : Int)) (bits .and .u32 (v.a.toNat : Int) (v.c.toNat : Int)))
        (bits .and .u32 (v.b.toNat : Int) (v.c.toNat : Int))) % 4294967296 = ((T2 v).toNat : Int) := by
  rw [and32, and32, and32, xor32, xor32]
  exact add32 _ _
theorem rnd_arr (r : R8) (k x : UInt32) : Value.agg #[.int .u32 ((((T1 r k x).toNat : Int) + ((T2 r).toNat : Int)) % 4294967296), u32v r.a, u32v r.b, u32v r.c,
    .int .u32 (((r.d.toNat : Int) + ((T1 r k x).toNat : Int)) % 4294967296), u32v r.e, u32v r.f, u32v r.g] = .agg (v8 (rnd r k x)) := by
  rw [add32, add32]; rfl
def R8.at (v : R8) : Nat → UInt32
  | 0 => v.a
  | 1 => v.b
  | 2 => v.c
  | 3 => v.d
  | 4 => v.e
  | 5 => v.f
  | 6 => v.g
  | _ => v.h
theorem v8_at (v : R8) (i : Nat) (h : i < 8) : (v8 v)[i]? = some (u32v (v.at i)) := by
  match i, h with
  | 0, _ => rfl
  | 1, _ => rfl
  | 2, _ => rfl
  | 3, _ => rfl
  | 4, _ => rfl
  | 5, _ => rfl
  | 6, _ => rfl
  | 7, _ => rfl
/-- The first k words are added. -/
def addk (h v : R8) (k : Nat) : R8 := ⟨if 0 < k then h.a + v.a else h.a, if 1 < k then h.b + v.b else h.b, if 2 < k then h.c + v.c else h.c, if 3 < k then h.d + v.d else h.d,
  if 4 < k then h.e + v.e else h.e, if 5 < k then h.f + v.f else h.f, if 6 < k then h.g + v.g else h.g, if 7 < k then h.h + v.h else h.h⟩
theorem addk_at (h v : R8) (k : Nat) (hk : k < 8) : (addk h v k).at k = h.at k := by
  match k, hk with
  | 0, _ => rfl
  | 1, _ => rfl
  | 2, _ => rfl
  | 3, _ => rfl
  | 4, _ => rfl
  | 5, _ => rfl
  | 6, _ => rfl
  | 7, _ => rfl
theorem addk_set (h v : R8) (k : Nat) (hk : k < 8) : (v8 (addk h v k)).setIfInBounds k (u32v (h.at k + v.at k)) = v8 (addk h v (k + 1)) := by
  match k, hk with
  | 0, _ => rfl
  | 1, _ => rfl
  | 2, _ => rfl
  | 3, _ => rfl
  | 4, _ => rfl
  | 5, _ => rfl
  | 6, _ => rfl
  | 7, _ => rfl
theorem addk_none (h v : R8) : addk h v 0 = h := rfl
theorem addk_all (h v : R8) : addk h v 8 = addv h v := rfl

/-! ### The digest's bytes -/
/-- Byte number m of a word, the greatest first. -/
def beB (x : UInt32) (m : Nat) : UInt8 := UInt8.ofNat (x.toNat / 2 ^ (8 * (3 - m)))
theorem beB_toNat (x : UInt32) (m : Nat) : (beB x m).toNat = x.toNat / 2 ^ (8 * (3 - m)) % 256 := by
  unfold beB; rw [UInt8.toNat_ofNat']
def wb (x : UInt32) (m : Nat) : List UInt8 := (List.range m).map (beB x)
theorem wb_succ (x : UInt32) (m : Nat) : wb x (m + 1) = wb x m ++ [beB x m] := by simp [wb, List.range_succ]
theorem wb_length (x : UInt32) (m : Nat) : (wb x m).length = m := by simp [wb]
/-- The bytes of the first k words. -/
def tellk (h : R8) : Nat → List UInt8
  | 0 => []
  | k + 1 => tellk h k ++ wb (h.at k) 4
theorem tellk_length (h : R8) (k : Nat) : (tellk h k).length = 4 * k := by
  induction k with
  | zero => rfl
  | succ k ih => simp [tellk, wb_length, ih]; omega
end Go.Proofs.YtgpafdagealnbaaDoor
