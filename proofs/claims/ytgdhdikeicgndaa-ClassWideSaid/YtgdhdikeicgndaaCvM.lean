/- classer: the library's stable sort, as a function on words. Plain. -/
import Derived.KernelRfl
import Derived.Tactics
set_option linter.all false
namespace Go.Proofs.Ytgdhdikeicgndaa
/-- The i-th byte of a word, and two of them exchanged. -/
def gt (s i : Nat) : Nat := s >>> (8 * i) % 256
def swp (s i j : Nat) : Nat := s ^^^ ((gt s i ^^^ gt s j) <<< (8 * i)) ^^^ ((gt s i ^^^ gt s j) <<< (8 * j))
theorem gt_lt (s i : Nat) : gt s i < 256 := Nat.mod_lt _ (by decide)
theorem gt_bit (s i b : Nat) : (gt s i).testBit b = (decide (b < 8) && s.testBit (8 * i + b)) := by
  unfold gt
  rw [show (256 : Nat) = 2 ^ 8 from rfl, Nat.testBit_mod_two_pow, Nat.testBit_shiftRight]
theorem gt_swp (s i j k : Nat) : gt (swp s i j) k = if k = i then gt s j else if k = j then gt s i else gt s k := by
  apply Nat.eq_of_testBit_eq
  intro b
  have hd : ∀ c, 8 ≤ c → (gt s i ^^^ gt s j).testBit c = false := by
    intro c hc
    rw [Nat.testBit_xor, gt_bit, gt_bit]
    simp [show ¬ c < 8 by omega]
  by_cases hb : b < 8
  · have e : (gt (swp s i j) k).testBit b = ((s.testBit (8 * k + b) ^^ (decide (8 * i ≤ 8 * k + b) && (gt s i ^^^ gt s j).testBit (8 * k + b - 8 * i))) ^^ (decide (8 * j ≤ 8 * k + b) && (gt s i ^^^ gt s j).testBit (8 * k + b - 8 * j))) := by
      rw [gt_bit, swp, Nat.testBit_xor, Nat.testBit_xor, Nat.testBit_shiftLeft, Nat.testBit_shiftLeft]
      simp [hb]
    have part : ∀ i', k ≠ i' → (decide (8 * i' ≤ 8 * k + b) && (gt s i ^^^ gt s j).testBit (8 * k + b - 8 * i')) = false := by
      intro i' hne
      rcases Nat.lt_or_gt_of_ne hne with h | h
      · simp [show ¬ 8 * i' ≤ 8 * k + b by omega]
      · rw [hd _ (by omega)]; simp
    have same : ∀ i', k = i' → (decide (8 * i' ≤ 8 * k + b) && (gt s i ^^^ gt s j).testBit (8 * k + b - 8 * i')) = ((gt s i).testBit b ^^ (gt s j).testBit b) := by
      intro i' he
      subst he
      rw [show 8 * k + b - 8 * k = b by omega, Nat.testBit_xor]
      simp
    have hk : s.testBit (8 * k + b) = (gt s k).testBit b := by rw [gt_bit]; simp [hb]
    rw [e, hk]
    by_cases h1 : k = i
    · rw [if_pos h1, same i h1]
      by_cases h2 : k = j
      · rw [same j h2]
        have : gt s i = gt s j := by rw [← h1, ← h2]
        rw [← this, h1]
        cases (gt s i).testBit b <;> rfl
      · rw [part j h2, h1]
        cases (gt s i).testBit b <;> cases (gt s j).testBit b <;> rfl
    · rw [if_neg h1, part i h1]
      by_cases h2 : k = j
      · rw [if_pos h2, same j h2, h2]
        cases (gt s i).testBit b <;> cases (gt s j).testBit b <;> rfl
      · rw [if_neg h2, part j h2]
        cases (gt s k).testBit b <;> rfl
  · have : ∀ x, x < 256 → x.testBit b = false := fun x hx => Nat.testBit_lt_two_pow (Nat.lt_of_lt_of_le hx (show 2 ^ 8 ≤ 2 ^ b from Nat.pow_le_pow_right (by decide) (by omega)))
    rw [this _ (gt_lt _ _)]
    split
    · rw [this _ (gt_lt _ _)]
    · split <;> rw [this _ (gt_lt _ _)]
/-- How many bits a byte has. -/
def popc (x : Nat) : Nat := 95125173855764218123276304889944061997689682402263585766959741291920687686033329201817409157123347502415384089435969498586180241031507595463600295898153685276653211633572815512294064538494957912327413386667662218713394765509704508661031522276467630197481635010039778342554499416459730172574551513689147646224 >>> (4 * x) % 16
def force {α : Type} (s : Nat) (f : Nat → α) : α := match s with
  | 0 => f 0
  | k + 1 => f (k + 1)
theorem force_eq {α : Type} (s : Nat) (f : Nat → α) : force s f = f s := by cases s <;> rfl
def insIn (a : Nat) : Nat → Nat → Nat
  | 0, s => s
  | j + 1, s => cond (Nat.blt a (j + 1) && Nat.blt (popc (gt s (j + 1))) (popc (gt s j))) (force (swp s (j + 1) j) (insIn a j)) s
def insOut (a : Nat) : Nat → Nat → Nat → Nat
  | 0, _, s => s
  | c + 1, i, s => force (insIn a i s) (insOut a c (i + 1))
def insS (a b s : Nat) : Nat := insOut a (b - (a + 1)) (a + 1) s
def bsr (p : Nat → Bool) : Nat → Nat → Nat → Nat
  | 0, i, _ => i
  | f + 1, i, j => cond (Nat.blt i j) (cond (p ((i + j) / 2)) (bsr p f ((i + j) / 2 + 1) j) (bsr p f i ((i + j) / 2))) i
def shUp : Nat → Nat → Nat → Nat
  | 0, _, s => s
  | c + 1, k, s => force (swp s k (k + 1)) (shUp c (k + 1))
def shDn : Nat → Nat → Nat → Nat
  | 0, _, s => s
  | c + 1, k, s => force (swp s k (k - 1)) (shDn c (k - 1))
def swr (a b : Nat) : Nat → Nat → Nat → Nat
  | 0, _, s => s
  | c + 1, k, s => force (swp s (a + k) (b + k)) (swr a b c (k + 1))
def rotL (m : Nat) : Nat → Nat → Nat → Nat → Nat
  | 0, _, _, s => s
  | f + 1, i, j, s => cond (Nat.beq i j) (swr (m - i) m i 0 s) (cond (Nat.blt j i) (force (swr (m - i) m j 0 s) (rotL m f (i - j) j)) (force (swr (m - i) (m + j - i) i 0 s) (rotL m f i (j - i))))
/-- Where the search of a merge begins, and where it ends. -/
def symS (a m b : Nat) : Nat := cond (Nat.blt ((a + b) / 2) m) ((a + b) / 2 + m - b) a
def symR (a m b : Nat) : Nat := cond (Nat.blt ((a + b) / 2) m) ((a + b) / 2) m
def symC (a m b s : Nat) : Nat := bsr (fun c => !Nat.blt (popc (gt s ((a + b) / 2 + m - 1 - c))) (popc (gt s c))) (b - a) (symS a m b) (symR a m b)
def symN : Nat → Nat → Nat → Nat → Nat → Nat
  | 0, _, _, _, s => s
  | f + 1, a, m, b, s =>
    cond (Nat.beq (m - a) 1) (force (bsr (fun h => Nat.blt (popc (gt s h)) (popc (gt s a))) (b - a) m b) fun i => shUp (i - 1 - a) a s)
    (cond (Nat.beq (b - m) 1) (force (bsr (fun h => !Nat.blt (popc (gt s m)) (popc (gt s h))) (b - a) a m) fun i => shDn (m - i) m s)
    (force (symC a m b s) fun st =>
      force (cond (Nat.blt st m && Nat.blt m ((a + b) / 2 + m - st)) (rotL m (b - a) (m - st) ((a + b) / 2 + m - st - m) s) s) fun s1 =>
      force (cond (Nat.blt a st && Nat.blt st ((a + b) / 2)) (symN f a st ((a + b) / 2) s1) s1) fun s2 =>
      cond (Nat.blt ((a + b) / 2) ((a + b) / 2 + m - st) && Nat.blt ((a + b) / 2 + m - st) b) (symN f ((a + b) / 2) ((a + b) / 2 + m - st) b s2) s2))
def blkL (n : Nat) : Nat → Nat → Nat → Nat
  | 0, _, s => s
  | f + 1, a, s => cond (Nat.ble (a + 20) n) (force (insS a (a + 20) s) (blkL n f (a + 20))) (insS a n s)
def mrgL (n bs : Nat) : Nat → Nat → Nat → Nat
  | 0, _, s => s
  | f + 1, a, s => cond (Nat.ble (a + 2 * bs) n) (force (symN (2 * bs) a (a + bs) (a + 2 * bs) s) (mrgL n bs f (a + 2 * bs))) (cond (Nat.blt (a + bs) n) (symN (2 * bs) a (a + bs) n s) s)
def mrgO (n : Nat) : Nat → Nat → Nat → Nat
  | 0, _, s => s
  | f + 1, bs, s => cond (Nat.blt bs n) (force (mrgL n bs n 0 s) (mrgO n f (2 * bs))) s
def stabN (n s : Nat) : Nat := force (blkL n n 0 s) (mrgO n n 20)
def codeOf : List Nat → Nat
  | [] => 0
  | x :: r => x + 256 * codeOf r
/-- All sets of so many calls, the smaller ones first. -/
def setsL (k : Nat) : List Nat := (List.range (k + 1)).flatMap fun c => (List.range (2 ^ k)).filter fun x => Nat.beq (popc x) c
theorem stab0 : stabN 1 0 = 0 := by kernel_rfl
theorem stab1 : stabN 2 256 = 256 := by kernel_rfl
theorem stab2 : stabN 4 50462976 = 50462976 := by kernel_rfl
theorem stab3 : stabN 8 506097522914230528 = 506097518636040448 := by kernel_rfl
theorem stab4 : stabN 16 20011376718272490338853433276725592320 = 20011376637808810377683830359145447680 := by kernel_rfl
theorem stab5 : stabN 32 14074904626401341155369551180448584754667373453244490859944217516317499064576 = 14074904599015625017429425425935709368051073956976243310874405652160481198336 := by kernel_rfl
theorem stab6 : stabN 64 3312311058617422219262701077603671083303783660776566047208785713678530063500214665672361533652489606496157966473013639691114223352419987691188160517243136 = 3312311055446367537796388604233583539486875787384301529597862216686624155034964141738586758264852128772078493571206734690264137337607262426598626283356416 := by kernel_rfl
theorem stab7 : stabN 128 89529403274711631458524904726661710070718287560273211920688346762199384441143301654588717102788860384589831109354174586611645488247382820496860764226508728086884051682750386392737732865309550357006822580858451777286500141437575055035005031476419058028418960984385123909303369665078464172484247279946956931328 = 89529403232194738759691415071367682684472135946772526534134551517723875725058238978633885217432257166256769106493616721714860584191560785039505561091665414402700208352744601393720540697916326120614088913393761996240767625650289596625173036673919747359421980867075348119948704833830206942882950803565398065408 := by kernel_rfl
theorem stab8 : stabN 256 32316509077753586139510713445660514514047171580093496865901477602143224540557412340472969236184020377745408638077439397456141948699754273791418869985027499602243785773646750786158629119897527698459159582903277348091197804306308450975276589715725867107713970624879795449576651053772645338545136289129326403509065092108109101077472046144122638474948527343653345105797020149055603954704727773430317796884279167058635246262041734914578626456397727386204475718614091025348906121070916929137541182355893615952208805117487445236884750886234300399097674869962426348425792929710270231641017897005896324246640151098893336183040 = 32316509070110353526618274278814529258102254269117121545228968768418758074516601121048685766580218650874961746947260560528371360147585143887436919882804172106608463908423448322248336665172125618821404971063786566970595704790720941045772809991341662948101327363423817435608143927348840111924117075116902219982991319730294992963489457111876162745357429822769997609751773303785022417944827827804185673949898428981365628203892336629478637270343661705516950573170348911185805730907961659699912834025870435829506832468712886787285630969947782029291457593402918482230866916678290195167866325487610799758966141398849496940800 := by kernel_rfl
end Go.Proofs.Ytgdhdikeicgndaa
