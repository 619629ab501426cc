import Derived.Test.YthiginhigfieiaaGreatDoorZMessageTurned1
import Derived.Test.YthiginhigfieiaaGreatDoorProg
/- The check sum, in plain terms: by bits from the lowest, by bits into the other end, by halves of bytes; what it tells apart. -/
namespace Go.Proofs.YthiginhigfieiaaGreatDoor.V
open Go Go.RowKit
set_option linter.unusedVariables false
set_option linter.unusedSimpArgs false
abbrev W32 := BitVec 32
def poly : W32 := 0xedb88320#32
def crcT (x : W32) : W32 := (x >>> 1) ^^^ (if x.getLsbD 0 then poly else 0#32)
def iter (n : Nat) (x : W32) : W32 := match n with
  | 0 => x
  | n + 1 => iter n (crcT x)
theorem crcT_xor (x y : W32) : crcT (x ^^^ y) = crcT x ^^^ crcT y := by
  unfold crcT
  rw [BitVec.ushiftRight_xor_distrib, BitVec.getLsbD_xor]
  have h : ∀ a b p : W32, a ^^^ b = a ^^^ (p ^^^ (b ^^^ p)) := by
    intro a b p
    apply BitVec.eq_of_getLsbD_eq
    intro i hi
    simp only [BitVec.getLsbD_xor]
    cases a.getLsbD i <;> cases b.getLsbD i <;> cases p.getLsbD i <;> rfl
  cases x.getLsbD 0 <;> cases y.getLsbD 0
  · simp
  · simp [BitVec.xor_assoc]
  · simp; ac_rfl
  · simp only [Bool.xor_self, Bool.false_eq_true, if_false, if_true, BitVec.xor_zero]
    rw [h (x >>> 1) (y >>> 1) poly]
    ac_rfl
theorem iter_xor : ∀ (n : Nat) (x y : W32), iter n (x ^^^ y) = iter n x ^^^ iter n y
  | 0, _, _ => rfl
  | n + 1, x, y => by simp only [iter, crcT_xor, iter_xor n]
theorem iter_succ' : ∀ (n : Nat) (x : W32), iter (n + 1) x = crcT (iter n x)
  | 0, _ => rfl
  | n + 1, x => by rw [iter, iter_succ' n, iter]
theorem iter_add : ∀ (n m : Nat) (x : W32), iter (n + m) x = iter n (iter m x)
  | n, 0, x => rfl
  | n, m + 1, x => by rw [← Nat.add_assoc, iter, iter_add n m, iter]
theorem crcT_zero : crcT 0#32 = 0#32 := by decide
theorem iter_zero : ∀ n, iter n 0#32 = 0#32
  | 0 => rfl
  | n + 1 => by rw [iter, crcT_zero, iter_zero n]
def crcByte (n : W32) (c : UInt8) : W32 := iter 8 (n ^^^ BitVec.ofNat 32 c.toNat)
def crcFrom (n : W32) (l : List UInt8) : W32 := l.foldl crcByte n
def crc (l : List UInt8) : W32 := ~~~ (crcFrom (~~~ 0#32) l)
theorem crcT_even {x : W32} (h : x.getLsbD 0 = false) : crcT x = x >>> 1 := by
  unfold crcT; rw [h]; simp
theorem iter4_even {x : W32} (h0 : x.getLsbD 0 = false) (h1 : x.getLsbD 1 = false) (h2 : x.getLsbD 2 = false) (h3 : x.getLsbD 3 = false) : iter 4 x = x >>> 4 := by
  simp only [iter]
  rw [crcT_even h0, crcT_even (x := x >>> 1) (by simpa using h1), ← BitVec.shiftRight_add, crcT_even (x := x >>> (1 + 1)) (by simpa using h2), ← BitVec.shiftRight_add, crcT_even (x := x >>> (1 + 1 + 1)) (by simpa using h3), ← BitVec.shiftRight_add]
theorem nib (x : W32) : (x >>> 4) ^^^ iter 4 (x &&& 15#32) = iter 4 x := by
  have e : x = (x &&& ~~~ 15#32) ^^^ (x &&& 15#32) := by
    apply BitVec.eq_of_getLsbD_eq
    intro i hi
    simp only [BitVec.getLsbD_xor, BitVec.getLsbD_and, BitVec.getLsbD_not, hi, decide_true, Bool.true_and]
    cases x.getLsbD i <;> cases (15#32).getLsbD i <;> rfl
  have hs : (x &&& ~~~ 15#32) >>> 4 = x >>> 4 := by
    apply BitVec.eq_of_getLsbD_eq
    intro i hi
    have h15 : (15#32).getLsbD (4 + i) = false := by
      rw [BitVec.getLsbD_ofNat]
      have : Nat.testBit 15 (4 + i) = false := Nat.testBit_lt_two_pow (Nat.lt_of_lt_of_le (by decide : 15 < 2 ^ 4) (Nat.pow_le_pow_right (by decide) (Nat.le_add_right _ _)))
      simp [this]
    simp only [BitVec.getLsbD_ushiftRight, BitVec.getLsbD_and, BitVec.getLsbD_not, h15]
    by_cases h : 4 + i < 32
    · simp [h]
    · simp [BitVec.getLsbD_of_ge x (4 + i) (by omega)]
  conv => rhs; rw [e, iter_xor]
  rw [iter4_even (x := x &&& ~~~ 15#32) (by simp) (by simp) (by simp) (by simp), hs]
def bitAt (b : Bool) (e : W32) : W32 := if b then e else 0#32
abbrev e31 : W32 := 0x80000000#32
abbrev e0 : W32 := 1#32
def aug (m : W32) (l : List Bool) : W32 := l.foldl (fun m b => crcT m ^^^ bitAt b e31) m
def non (n : W32) (l : List Bool) : W32 := l.foldl (fun n b => crcT (n ^^^ bitAt b e0)) n
theorem iter_bitAt (n : Nat) (b : Bool) (e : W32) : iter n (bitAt b e) = bitAt b (iter n e) := by cases b <;> simp [bitAt, iter_zero]
theorem aug_zeros : ∀ (n : Nat) (m : W32), aug m (List.replicate n false) = iter n m
  | 0, _ => rfl
  | n + 1, m => by
    rw [List.replicate_succ]
    show aug (crcT m ^^^ bitAt false e31) (List.replicate n false) = _
    rw [aug_zeros n]
    simp [bitAt, iter]
theorem aug_app (m : W32) (l k : List Bool) : aug m (l ++ k) = aug (aug m l) k := List.foldl_append
theorem non_app (m : W32) (l k : List Bool) : non m (l ++ k) = non (non m l) k := List.foldl_append
theorem aug_xor : ∀ (l : List Bool) (x y : W32), aug (x ^^^ y) l = aug x l ^^^ iter l.length y
  | [], _, _ => rfl
  | b :: l, x, y => by
    show aug (crcT (x ^^^ y) ^^^ bitAt b e31) l = aug (crcT x ^^^ bitAt b e31) l ^^^ iter l.length (crcT y)
    rw [← aug_xor l, crcT_xor]
    congr 1
    ac_rfl
theorem non_xor : ∀ (l : List Bool) (x y : W32), non (x ^^^ y) l = non x l ^^^ iter l.length y
  | [], _, _ => rfl
  | b :: l, x, y => by
    show non (crcT (x ^^^ y ^^^ bitAt b e0)) l = non (crcT (x ^^^ bitAt b e0)) l ^^^ iter l.length (crcT y)
    rw [← non_xor l, ← crcT_xor]
    congr 2
    ac_rfl
theorem iter_comm (n : Nat) (x : W32) : iter n (crcT x) = crcT (iter n x) := (iter_succ' n x ▸ rfl : iter (n + 1) x = crcT (iter n x))
theorem aug_non : ∀ (l : List Bool) (m : W32), iter 32 (aug m l) = non (iter 32 m) l
  | [], _ => rfl
  | b :: l, m => by
    show iter 32 (aug (crcT m ^^^ bitAt b e31) l) = non (crcT (iter 32 m ^^^ bitAt b e0)) l
    rw [aug_non l, iter_xor, iter_bitAt, iter_comm, show iter 32 e31 = crcT e0 by decide +kernel, crcT_xor]
    congr 2
    cases b <;> simp [bitAt, crcT_zero]
theorem aug_not : ∀ (l : List Bool) (x : W32), aug x (l.map (!·)) = aug x l ^^^ aug 0#32 (List.replicate l.length true)
  | [], x => by simp [aug]
  | b :: l, x => by
    show aug (crcT x ^^^ bitAt (!b) e31) (l.map (!·)) = aug (crcT x ^^^ bitAt b e31) l ^^^ aug (crcT 0#32 ^^^ bitAt true e31) (List.replicate l.length true)
    rw [aug_not l]
    have h1 : bitAt (!b) e31 = bitAt b e31 ^^^ bitAt true e31 := by cases b <;> simp [bitAt]
    rw [h1, ← BitVec.xor_assoc, aug_xor, crcT_zero]
    have h2 := aug_xor (List.replicate l.length true) 0#32 (bitAt true e31)
    rw [h2]
    simp only [List.length_replicate]
    ac_rfl
theorem aug_turned (l : List Bool) (k1 k2 : List Bool) (h : l ++ List.replicate 32 false = k1 ++ k2) (hk : k1.length = 32) : aug 0#32 (k1.map (!·) ++ k2) = non (~~~ 0#32) l := by
  have hones : aug 0#32 (List.replicate 32 true) = ~~~ 0#32 := by decide +kernel
  rw [aug_app, aug_not, hk, hones, aug_xor, ← aug_app, ← h, aug_app, aug_zeros, aug_non, iter_zero]
  have hl : k2.length = l.length := by
    have := congrArg List.length h
    simp at this
    omega
  rw [hl, ← non_xor]
  simp
def bits8 (c : UInt8) : List Bool := (List.range 8).map (fun k => c.toNat.testBit k)
def bitsOf (l : List UInt8) : List Bool := l.flatMap bits8
theorem non8 (n : W32) (c : UInt8) : non n (bits8 c) = crcByte n c := by
  have h : non n (bits8 c) = iter 8 n ^^^ non 0#32 (bits8 c) := by
    have := non_xor (bits8 c) 0#32 n
    simpa [bits8, BitVec.xor_comm] using this
  rw [h]
  unfold crcByte
  rw [iter_xor]
  congr 1
  have : ∀ k : Fin 256, non 0#32 (bits8 (UInt8.ofNat k)) = iter 8 (BitVec.ofNat 32 (UInt8.ofNat k).toNat) := by decide +kernel
  have h2 := this ⟨c.toNat, c.toNat_lt⟩
  simpa using h2
theorem non_bits : ∀ (l : List UInt8) (n : W32), non n (bitsOf l) = crcFrom n l
  | [], _ => rfl
  | c :: l, n => by
    unfold bitsOf
    rw [List.flatMap_cons, non_app, non8]
    exact non_bits l _
end Go.Proofs.YthiginhigfieiaaGreatDoor.V
/- Messages: their fields, what they are as bytes (plain). -/
namespace Go.Proofs.YthiginhigfieiaaGreatDoor.V
open Go Go.RowKit
set_option linter.unusedVariables false
set_option linter.unusedSimpArgs false

structure Mg where
  kind : Int
  frm : Int
  to : Int
  shard : Int
  epoch : Int
  te : Int
  ts : Int
  round : Int
  span : Int
  seen : Int
  v : Sl
  peer : Int
  num : Int
  name : ByteArray
  other : ByteArray
  amount : Int
  life : Int
  id : Int
  op : Int
  client : Int
  state : Int
  bad : Int
  b : List UInt8
def mgC (m : Mg) : List Value := [.int .i64 m.kind, .int .i64 m.frm, .int .i64 m.to, .int .i64 m.shard, .int .u64 m.epoch, .int .u64 m.te, .int .u64 m.ts, .int .u64 m.round, .int .i64 m.span, .int .u64 m.seen, .slice m.v.ptr m.v.len m.v.cap, .int .i64 m.peer, .int .u64 m.num, .string m.name, .string m.other, .int .u64 m.amount, .int .u64 m.life, .int .u64 m.id, .int .i64 m.op, .int .i64 m.client, .int .i64 m.state, .int .i64 m.bad]
def mgz : Mg := ⟨0, 0, 0, 0, 0, 0, 0, 0, 0, 0, ⟨none, 0, 0⟩, 0, 0, ⟨#[]⟩, ⟨#[]⟩, 0, 0, 0, 0, 0, 0, 0, []⟩
def Mg.bare (m : Mg) : Mg := { m with v := ⟨none, 0, 0⟩ }
theorem mgC_len (m : Mg) : (mgC m).length = 22 := rfl
def pk : Nat → Nat
  | 6 => 2
  | 9 => 2
  | 10 => 2
  | 7 => 1
  | 14 => 1
  | 15 => 1
  | 16 => 1
  | _ => 0
def pmax : Nat → Nat
  | 4 => 1025
  | 6 => 16384
  | 7 => 7
  | 9 => 64
  | 10 => 64
  | 11 => 9007199254740992
  | 14 => 3
  | 15 => 7
  | 16 => 4
  | 17 => 307
  | _ => 1099511627776
def pget (p : Nat) (m : Mg) : Int := match p with
  | 0 => m.epoch
  | 1 => m.te
  | 2 => m.ts
  | 3 => m.round
  | 4 => m.span
  | 5 => m.seen
  | 7 => m.peer
  | 8 => m.num
  | 11 => m.amount
  | 12 => m.life
  | 13 => m.id
  | 14 => m.op
  | 15 => m.client
  | 16 => m.state
  | 17 => m.bad
  | _ => 0
def ptxt (p : Nat) (m : Mg) : List UInt8 := match p with
  | 6 => m.b
  | 9 => m.name.data.toList
  | 10 => m.other.data.toList
  | _ => []
def pset (p : Nat) (n : Int) (l : List UInt8) (m : Mg) : Mg := { m with epoch := if p = 0 then n else m.epoch, te := if p = 1 then n else m.te, ts := if p = 2 then n else m.ts, round := if p = 3 then n else m.round, span := if p = 4 then n else m.span, seen := if p = 5 then n else m.seen, peer := if p = 7 then n else m.peer, num := if p = 8 then n else m.num, amount := if p = 11 then n else m.amount, life := if p = 12 then n else m.life, id := if p = 13 then n else m.id, op := if p = 14 then n else m.op, client := if p = 15 then n else m.client, state := if p = 16 then n else m.state, bad := if p = 17 then n else m.bad, b := if p = 6 then l else m.b, name := if p = 9 then ⟨l.toArray⟩ else m.name, other := if p = 10 then ⟨l.toArray⟩ else m.other }
def mayB (p : Nat) (m : Mg) : Bool := if pk p = 2 then decide ((ptxt p m).length ≤ pmax p) else if p = 17 then decide (m.bad = 0 ∨ (300 ≤ m.bad ∧ m.bad ≤ 307)) else decide (0 ≤ pget p m ∧ pget p m ≤ pmax p)
def zeroB (p : Nat) (m : Mg) : Bool := if pk p = 2 then decide ((ptxt p m).length = 0) else decide (pget p m = 0)
def bytP (p : Nat) (m : Mg) : List UInt8 := if pk p = 2 then varB (ptxt p m).length ++ ptxt p m else if pk p = 1 then fixB (pget p m).toNat 1 else varB (pget p m).toNat
def kpN : Nat → List Nat
  | 1 => [0]
  | 2 => [0, 1, 2, 6]
  | 3 => [0, 5]
  | 4 => [1, 2, 4, 6]
  | 5 => [1, 2]
  | 6 => [0, 3, 4]
  | 7 => [0, 3]
  | 8 => [7, 8, 9, 11]
  | 9 => [7, 8]
  | 10 => [8, 9, 10, 11, 12, 13, 14, 15]
  | 11 => [11, 12, 13, 16, 17]
  | _ => []
def kp (k : Int) : List Nat := kpN k.toNat
def kindB (m : Mg) : Bool := decide (1 ≤ m.kind ∧ m.kind ≤ 11)
def headB (m : Mg) : Bool := decide ((0 ≤ m.frm ∧ m.frm < 9) ∧ (0 ≤ m.to ∧ m.to < 9) ∧ (0 ≤ m.shard ∧ m.shard < 8))
def fldB (m : Mg) : Bool := (List.range 18).all fun p => if p ∈ kp m.kind then mayB p m else zeroB p m
def wrongM (m : Mg) : Int := if kindB m = true then (if headB m = true ∧ fldB m = true then 0 else 83) else 80
def bodyH (m : Mg) : List UInt8 := fixB m.kind.toNat 1 ++ fixB m.frm.toNat 1 ++ fixB m.to.toNat 1 ++ fixB m.shard.toNat 1
def bodyM (m : Mg) : List UInt8 := bodyH m ++ (kp m.kind).flatMap fun p => bytP p m
def sealB (l : List UInt8) : List UInt8 := l ++ fixB (crc l).toNat 4
def rdP1 (lim : Nat → Nat) (x : RS × Mg) (p : Nat) : RS × Mg :=
  if pk p = 2 then ((x.1.bytesP (lim p)).1, pset p 0 (x.1.bytesP (lim p)).2 x.2)
  else if pk p = 1 then (x.1.next 1, pset p ((beN (x.1.nextB 1) : Nat) : Int) [] x.2)
  else ((x.1.varP (lim p)).1, pset p (if p = 4 ∨ p = 17 then IntKind.i64.wrap (((x.1.varP (lim p)).2 : Nat) : Int) else (((x.1.varP (lim p)).2 : Nat) : Int)) [] x.2)
def rdH (r : RS) : RS × Mg := ((((r.next 1).next 1).next 1).next 1, { mgz with kind := ((beN (r.nextB 1) : Nat) : Int), frm := ((beN ((r.next 1).nextB 1) : Nat) : Int), to := ((beN (((r.next 1).next 1).nextB 1) : Nat) : Int), shard := ((beN ((((r.next 1).next 1).next 1).nextB 1) : Nat) : Int) })
def rdAll (lim : Nat → Nat) (r : RS) : RS × Mg := (kp (rdH r).2.kind).foldl (rdP1 lim) (rdH r)
theorem kp_lt {k : Int} : (kp k).Nodup ∧ ∀ p ∈ kp k, p < 18 := by
  unfold kp
  generalize k.toNat = n
  unfold kpN
  split <;> decide
theorem pset_get {p q : Nat} {n : Int} {l : List UInt8} {m : Mg} (h : p ≠ q) : pget q (pset p n l m) = pget q m ∧ ptxt q (pset p n l m) = ptxt q m := by
  refine ⟨?_, ?_⟩
  · unfold pget
    split <;> first | exact if_neg h | rfl
  · unfold ptxt
    split
    · exact if_neg h
    · show (if p = 9 then (⟨l.toArray⟩ : ByteArray) else m.name).data.toList = _
      rw [if_neg h]
    · show (if p = 10 then (⟨l.toArray⟩ : ByteArray) else m.other).data.toList = _
      rw [if_neg h]
    · rfl
theorem pset_head {p : Nat} {n : Int} {l : List UInt8} {m : Mg} : (pset p n l m).kind = m.kind ∧ (pset p n l m).frm = m.frm ∧ (pset p n l m).to = m.to ∧ (pset p n l m).shard = m.shard ∧ (pset p n l m).v = m.v := ⟨rfl, rfl, rfl, rfl, rfl⟩
theorem bytP_congr {p : Nat} {m m2 : Mg} (h1 : pget p m = pget p m2) (h2 : ptxt p m = ptxt p m2) : bytP p m = bytP p m2 := by
  unfold bytP
  rw [h1, h2]
theorem fold_get {lim : Nat → Nat} {q : Nat} : ∀ (ps : List Nat) (x : RS × Mg), q ∉ ps → pget q (ps.foldl (rdP1 lim) x).2 = pget q x.2 ∧ ptxt q (ps.foldl (rdP1 lim) x).2 = ptxt q x.2
  | [], x, _ => ⟨rfl, rfl⟩
  | p :: ps, x, h => by
    have h1 : p ≠ q := fun e => h (by rw [e]; exact List.mem_cons_self)
    obtain ⟨a1, a2⟩ := fold_get (lim := lim) ps (rdP1 lim x p) (fun e => h (List.mem_cons_of_mem _ e))
    have : pget q (rdP1 lim x p).2 = pget q x.2 ∧ ptxt q (rdP1 lim x p).2 = ptxt q x.2 := by
      unfold rdP1
      split
      · exact pset_get h1
      split
      · exact pset_get h1
      · exact pset_get h1
    exact ⟨a1.trans this.1, a2.trans this.2⟩
theorem fold_head {lim : Nat → Nat} : ∀ (ps : List Nat) (x : RS × Mg), (ps.foldl (rdP1 lim) x).2.kind = x.2.kind ∧ (ps.foldl (rdP1 lim) x).2.frm = x.2.frm ∧ (ps.foldl (rdP1 lim) x).2.to = x.2.to ∧ (ps.foldl (rdP1 lim) x).2.shard = x.2.shard ∧ (ps.foldl (rdP1 lim) x).2.v = x.2.v
  | [], x => ⟨rfl, rfl, rfl, rfl, rfl⟩
  | p :: ps, x => by
    have h := fold_head (lim := lim) ps (rdP1 lim x p)
    have : (rdP1 lim x p).2.kind = x.2.kind ∧ (rdP1 lim x p).2.frm = x.2.frm ∧ (rdP1 lim x p).2.to = x.2.to ∧ (rdP1 lim x p).2.shard = x.2.shard ∧ (rdP1 lim x p).2.v = x.2.v := by
      unfold rdP1
      split
      · exact pset_head
      split
      · exact pset_head
      · exact pset_head
    exact ⟨h.1.trans this.1, h.2.1.trans this.2.1, h.2.2.1.trans this.2.2.1, h.2.2.2.1.trans this.2.2.2.1, h.2.2.2.2.trans this.2.2.2.2⟩
theorem one_stuck {lim : Nat → Nat} {x : RS × Mg} {p : Nat} (h : x.1.met ≠ 0) : (rdP1 lim x p).1.met ≠ 0 := by
  unfold rdP1
  split
  · rw [RS.stuck_bytes h]; exact h
  split
  · show (x.1.next 1).met ≠ 0
    rw [(RS.stuck_next h 1).1]; exact h
  · rw [RS.stuck_var h]; exact h
theorem fold_stuck {lim : Nat → Nat} : ∀ (ps : List Nat) (x : RS × Mg), x.1.met ≠ 0 → (ps.foldl (rdP1 lim) x).1.met ≠ 0
  | [], x, h => h
  | p :: ps, x, h => fold_stuck ps _ (one_stuck h)
theorem one_ok {lim : Nat → Nat} {x : RS × Mg} {p : Nat} (o : x.1.Ok) : (rdP1 lim x p).1.Ok ∧ (rdP1 lim x p).1.b = x.1.b := by
  unfold rdP1
  split
  · exact ⟨o.bytesP _, RS.bytesP_b⟩
  split
  · exact ⟨o.next _, RS.next_b⟩
  · exact ⟨o.varP _, RS.varP_b⟩
theorem pset_self {p : Nat} {n : Int} {l : List UInt8} {m : Mg} (h : p < 18) : (pk p ≠ 2 → pget p (pset p n l m) = n) ∧ (pk p = 2 → ptxt p (pset p n l m) = l) := by
  have : p = 0 ∨ p = 1 ∨ p = 2 ∨ p = 3 ∨ p = 4 ∨ p = 5 ∨ p = 6 ∨ p = 7 ∨ p = 8 ∨ p = 9 ∨ p = 10 ∨ p = 11 ∨ p = 12 ∨ p = 13 ∨ p = 14 ∨ p = 15 ∨ p = 16 ∨ p = 17 := by omega
  rcases this with rfl | rfl | rfl | rfl | rfl | rfl | rfl | rfl | rfl | rfl | rfl | rfl | rfl | rfl | rfl | rfl | rfl | rfl <;> (refine ⟨fun h => ?_, fun h => ?_⟩) <;> first | rfl | exact absurd rfl h | (exact absurd h (by decide)) | (show (_ : List UInt8).toArray.toList = _; simp)
theorem one_took {lim : Nat → Nat} {x : RS × Mg} {p : Nat} (hp : p < 18) (hl : lim 4 < 9223372036854775808 ∧ lim 17 < 9223372036854775808) (o : x.1.Ok) (hm : x.1.met = 0) : Took x.1 (rdP1 lim x p).1 (bytP p (rdP1 lim x p).2) := by
  unfold rdP1
  by_cases h2 : pk p = 2
  · rw [if_pos h2]
    have := took_bytes o hm (lim p)
    unfold bytP
    rw [if_pos h2]
    show Took x.1 (x.1.bytesP (lim p)).1 _
    rw [(pset_self (n := 0) (l := (x.1.bytesP (lim p)).2) (m := x.2) hp).2 h2]
    exact this
  rw [if_neg h2]
  by_cases h1 : pk p = 1
  · rw [if_pos h1]
    have := took_fixed o hm 1
    unfold bytP
    rw [if_neg h2, if_pos h1]
    show Took x.1 (x.1.next 1) _
    rw [(pset_self (n := ((beN (x.1.nextB 1) : Nat) : Int)) (l := []) (m := x.2) hp).1 h2, Int.toNat_natCast]
    exact this
  · rw [if_neg h1]
    have := took_var o hm (lim p)
    have hle := RS.varP_le (r := x.1) (most := lim p)
    unfold bytP
    rw [if_neg h2, if_neg h1]
    show Took x.1 (x.1.varP (lim p)).1 _
    rw [(pset_self (l := []) (m := x.2) hp).1 h2]
    have e : (if p = 4 ∨ p = 17 then IntKind.i64.wrap (((x.1.varP (lim p)).2 : Nat) : Int) else (((x.1.varP (lim p)).2 : Nat) : Int)) = (((x.1.varP (lim p)).2 : Nat) : Int) := by
      split
      · rename_i h
        rcases h with rfl | rfl <;> exact wrap64 (by omega) (by omega)
      · rfl
    rw [e, Int.toNat_natCast]
    exact this
theorem fold_took {lim : Nat → Nat} (hl : lim 4 < 9223372036854775808 ∧ lim 17 < 9223372036854775808) : ∀ (ps : List Nat) (x : RS × Mg), ps.Nodup → (∀ p ∈ ps, p < 18) → x.1.Ok → (ps.foldl (rdP1 lim) x).1.met = 0 → x.1.met = 0 ∧ (ps.foldl (rdP1 lim) x).1.Ok ∧ (ps.foldl (rdP1 lim) x).1.b = x.1.b ∧ x.1.b.take x.1.at_ ++ (ps.flatMap fun p => bytP p (ps.foldl (rdP1 lim) x).2) = x.1.b.take (ps.foldl (rdP1 lim) x).1.at_
  | [], x, _, _, o, h => ⟨h, o, rfl, by show _ ++ [] = _; rw [List.append_nil]; rfl⟩
  | p :: ps, x, nd, hp, o, h => by
    have hm : x.1.met = 0 := Decidable.byContradiction fun g => fold_stuck (p :: ps) x g h
    obtain ⟨n1, n2⟩ := List.nodup_cons.1 nd
    have hp0 := hp p List.mem_cons_self
    have hm1 : (rdP1 lim x p).1.met = 0 := Decidable.byContradiction fun g => fold_stuck ps _ g h
    have t := one_took (lim := lim) hp0 hl o hm
    obtain ⟨o1, b1⟩ := one_ok (lim := lim) (p := p) o
    obtain ⟨_, a2, a3, a4⟩ := fold_took hl ps (rdP1 lim x p) n2 (fun q hq => hp q (List.mem_cons_of_mem _ hq)) o1 h
    obtain ⟨g1, g2⟩ := fold_get (lim := lim) (q := p) ps (rdP1 lim x p) n1
    refine ⟨hm, a2, a3.trans b1, ?_⟩
    show x.1.b.take x.1.at_ ++ (bytP p (ps.foldl (rdP1 lim) (rdP1 lim x p)).2 ++ ps.flatMap _) = x.1.b.take (ps.foldl (rdP1 lim) (rdP1 lim x p)).1.at_
    rw [bytP_congr g1 g2, ← List.append_assoc, took_take t hm1, ← b1]
    exact a4
theorem read_was {lim : Nat → Nat} (hl : lim 4 < 9223372036854775808 ∧ lim 17 < 9223372036854775808) {b : List UInt8} (hb : b.length ≤ 140737488355328) (h1 : (rdAll lim ⟨b, 0, 0⟩).1.met = 0) (h2 : (rdAll lim ⟨b, 0, 0⟩).1.left = 0) : bodyM (rdAll lim ⟨b, 0, 0⟩).2 = b := by
  have o0 : (⟨b, 0, 0⟩ : RS).Ok := ⟨Nat.zero_le _, hb, Nat.zero_le _⟩
  obtain ⟨r0, hr0⟩ : ∃ r0 : RS, r0 = ⟨b, 0, 0⟩ := ⟨_, rfl⟩
  rw [← hr0] at h1 h2 o0 ⊢
  have hk : (rdAll lim r0).2.kind = (rdH r0).2.kind := (fold_head _ _).1
  have oH : (rdH r0).1.Ok := (((o0.next 1).next 1).next 1).next 1
  obtain ⟨m1, a2, a3, a4⟩ := fold_took hl (kp (rdH r0).2.kind) (rdH r0) kp_lt.1 kp_lt.2 oH h1
  have m1 : ((((r0.next 1).next 1).next 1).next 1).met = 0 := m1
  have st : ∀ {r : RS}, (r.next 1).met = 0 → r.met = 0 := fun {r} h => Decidable.byContradiction fun g => by rw [(RS.stuck_next g 1).1] at h; exact g h
  have m2 := st m1
  have m3 := st m2
  have m4 := st m3
  have m5 : r0.met = 0 := by rw [hr0]
  have t1 := took_take (took_fixed o0 m5 1) m4
  have t2 := took_take (took_fixed (o0.next 1) m4 1) m3
  have t3 := took_take (took_fixed ((o0.next 1).next 1) m3 1) m2
  have t4 := took_take (took_fixed (((o0.next 1).next 1).next 1) m2 1) m1
  rw [RS.next_b] at t2
  rw [RS.next_b, RS.next_b] at t3
  rw [RS.next_b, RS.next_b, RS.next_b] at t4
  have bH : (rdH r0).1.b = r0.b := by show ((((r0.next 1).next 1).next 1).next 1).b = _; rw [RS.next_b, RS.next_b, RS.next_b, RS.next_b]
  obtain ⟨e1, e2, e3, e4, e5⟩ := fold_head (lim := lim) (kp (rdH r0).2.kind) (rdH r0)
  have hh : bodyH (rdAll lim r0).2 = fixB (beN (r0.nextB 1)) 1 ++ fixB (beN ((r0.next 1).nextB 1)) 1 ++ fixB (beN (((r0.next 1).next 1).nextB 1)) 1 ++ fixB (beN ((((r0.next 1).next 1).next 1).nextB 1)) 1 := by
    unfold bodyH
    rw [show (rdAll lim r0).2.kind = ((beN (r0.nextB 1) : Nat) : Int) from e1, show (rdAll lim r0).2.frm = ((beN ((r0.next 1).nextB 1) : Nat) : Int) from e2, show (rdAll lim r0).2.to = ((beN (((r0.next 1).next 1).nextB 1) : Nat) : Int) from e3, show (rdAll lim r0).2.shard = ((beN ((((r0.next 1).next 1).next 1).nextB 1) : Nat) : Int) from e4]
    simp only [Int.toNat_natCast]
  have at0 : r0.b.take r0.at_ = [] := by rw [hr0]; rfl
  rw [at0, List.nil_append] at t1
  have hb2 : bodyH (rdAll lim r0).2 = r0.b.take (rdH r0).1.at_ := by
    rw [hh, t1, t2, t3, t4]
    rfl
  unfold bodyM
  rw [hk, hb2, ← bH]
  refine a4.trans ?_
  have lb : (rdAll lim r0).1.at_ = r0.b.length := by
    have := a2.le
    unfold RS.left at h2
    have e : (rdAll lim r0).1.b = r0.b := a3.trans bH
    rw [e] at h2
    have e2 : (List.foldl (rdP1 lim) (rdH r0) (kp (rdH r0).2.kind)).1.b = r0.b := a3.trans bH
    rw [e2] at this
    have this : (rdAll lim r0).1.at_ ≤ r0.b.length := this
    omega
  show (rdH r0).1.b.take (rdAll lim r0).1.at_ = b
  rw [bH, lb, List.take_length, hr0]
end Go.Proofs.YthiginhigfieiaaGreatDoor.V
/- Messages: what is written is read; both Decodes are one (plain). -/
namespace Go.Proofs.YthiginhigfieiaaGreatDoor.V
open Go Go.RowKit
set_option linter.unusedVariables false
set_option linter.unusedSimpArgs false

theorem pset_txt {p : Nat} {n k : Int} {l : List UInt8} {m : Mg} (h : pk p = 2) : pset p n l m = pset p k l m := by
  unfold pk at h
  split at h <;> first | rfl | cases h
theorem pset_num {p : Nat} {n : Int} {l k : List UInt8} {m : Mg} (h : pk p ≠ 2) : pset p n l m = pset p n k m := by
  have h6 : p ≠ 6 := fun e => h (by rw [e]; rfl)
  have h9 : p ≠ 9 := fun e => h (by rw [e]; rfl)
  have h10 : p ≠ 10 := fun e => h (by rw [e]; rfl)
  unfold pset
  simp only [if_neg h6, if_neg h9, if_neg h10]
theorem pk_le (p : Nat) : pk p = 0 ∨ pk p = 1 ∨ pk p = 2 := by
  unfold pk
  split <;> simp
theorem pmax_small {p : Nat} (h : pk p = 1) : pmax p ≤ 7 := by
  unfold pk at h
  split at h <;> first | (exact absurd h (by decide)) | decide
theorem pmax_le (p : Nat) : pmax p ≤ 9007199254740992 := by
  unfold pmax
  split <;> decide
theorem may_num {p : Nat} {m : Mg} (h : mayB p m = true) (hk : pk p ≠ 2) : 0 ≤ pget p m ∧ pget p m ≤ pmax p := by
  unfold mayB at h
  rw [if_neg hk] at h
  split at h
  · rename_i h17
    subst h17
    have := of_decide_eq_true h
    show 0 ≤ m.bad ∧ m.bad ≤ ((307 : Nat) : Int)
    omega
  · exact of_decide_eq_true h
theorem may_txt {p : Nat} {m : Mg} (h : mayB p m = true) (hk : pk p = 2) : (ptxt p m).length ≤ pmax p := by
  unfold mayB at h
  rw [if_pos hk] at h
  exact of_decide_eq_true h
def LimOk (lim : Nat → Nat) (m : Mg) (p : Nat) : Prop := (pk p = 2 → (ptxt p m).length ≤ lim p) ∧ (pk p = 0 → pmax p ≤ lim p)
theorem one_back {lim : Nat → Nat} {r : RS} {m m0 : Mg} {p : Nat} (hm : mayB p m = true) (hl : LimOk lim m p) (B : Before r (bytP p m)) : rdP1 lim (r, m0) p = ({ r with at_ := r.at_ + (bytP p m).length }, pset p (pget p m) (ptxt p m) m0) := by
  have hpm := pmax_le p
  unfold rdP1
  by_cases h2 : pk p = 2
  · rw [if_pos h2]
    have e0 : bytP p m = varB (ptxt p m).length ++ ptxt p m := by unfold bytP; rw [if_pos h2]
    rw [e0] at B ⊢
    have hle := may_txt hm h2
    have e := RS.bytesP.eq_1 r (lim p)
    rw [show (max 0 ((lim p : Nat) : Int)).toNat = lim p by omega, B.pre.var (by omega) (hl.1 h2)] at e
    have B2 := B.suf
    have h3 := B2.left
    rw [if_neg (fun x => by have h4 : (ptxt p m).length > RS.left { r with at_ := r.at_ + (varB (ptxt p m).length).length } := x.2; omega), B2.next.1, B2.next.2] at e
    show ((r.bytesP (lim p)).1, pset p 0 (r.bytesP (lim p)).2 m0) = _
    rw [e, List.length_append, ← Nat.add_assoc, pset_txt h2]
  rw [if_neg h2]
  obtain ⟨g1, g2⟩ := may_num hm h2
  by_cases h1 : pk p = 1
  · rw [if_pos h1]
    have e0 : bytP p m = fixB (pget p m).toNat 1 := by unfold bytP; rw [if_neg h2, if_pos h1]
    rw [e0] at B ⊢
    have hs := pmax_small h1
    have hn := B.next
    rw [fixB_len] at hn ⊢
    show (r.next 1, pset p ((beN (r.nextB 1) : Nat) : Int) [] m0) = _
    rw [hn.1, hn.2, beN_fixB 1 _ (by omega), show (((pget p m).toNat : Nat) : Int) = pget p m by omega, pset_num h2]
  · rw [if_neg h1]
    have h0 : pk p = 0 := by have := pk_le p; omega
    have e0 : bytP p m = varB (pget p m).toNat := by unfold bytP; rw [if_neg h2, if_neg h1]
    rw [e0] at B ⊢
    have hv := B.var (most := lim p) (by omega) (by have := hl.2 h0; omega)
    show ((r.varP (lim p)).1, pset p (if p = 4 ∨ p = 17 then IntKind.i64.wrap (((r.varP (lim p)).2 : Nat) : Int) else (((r.varP (lim p)).2 : Nat) : Int)) [] m0) = _
    rw [hv]
    have e : (if p = 4 ∨ p = 17 then IntKind.i64.wrap (((pget p m).toNat : Nat) : Int) else (((pget p m).toNat : Nat) : Int)) = pget p m := by
      split
      · rw [wrap64 (by omega) (by omega)]; omega
      · omega
    show (_, pset p (if p = 4 ∨ p = 17 then IntKind.i64.wrap (((pget p m).toNat : Nat) : Int) else (((pget p m).toNat : Nat) : Int)) [] m0) = _
    rw [e, pset_num h2]
def putMg (m : Mg) (m0 : Mg) (p : Nat) : Mg := pset p (pget p m) (ptxt p m) m0
theorem fold_back {lim : Nat → Nat} {m : Mg} : ∀ (ps : List Nat) (r : RS) (m0 : Mg), (∀ p ∈ ps, mayB p m = true ∧ LimOk lim m p) → Before r (ps.flatMap fun p => bytP p m) → ps.foldl (rdP1 lim) (r, m0) = ({ r with at_ := r.at_ + (ps.flatMap fun p => bytP p m).length }, ps.foldl (putMg m) m0)
  | [], r, m0, _, _ => by simp
  | p :: ps, r, m0, h, B => by
    have B : Before r (bytP p m ++ ps.flatMap fun p => bytP p m) := B
    obtain ⟨h1, h2⟩ := h p List.mem_cons_self
    rw [List.foldl_cons, one_back h1 h2 B.pre, fold_back ps _ _ (fun q hq => h q (List.mem_cons_of_mem _ hq)) B.suf, List.flatMap_cons, List.length_append, ← Nat.add_assoc]
    rfl
theorem putMg_get {m : Mg} {q : Nat} (hq : q < 18) : ∀ (ps : List Nat) (m0 : Mg), (pk q ≠ 2 → (q ∈ ps → pget q (ps.foldl (putMg m) m0) = pget q m) ∧ (q ∉ ps → pget q (ps.foldl (putMg m) m0) = pget q m0)) ∧ (pk q = 2 → (q ∈ ps → ptxt q (ps.foldl (putMg m) m0) = ptxt q m) ∧ (q ∉ ps → ptxt q (ps.foldl (putMg m) m0) = ptxt q m0))
  | [], m0 => ⟨fun _ => ⟨fun h => absurd h List.not_mem_nil, fun _ => rfl⟩, fun _ => ⟨fun h => absurd h List.not_mem_nil, fun _ => rfl⟩⟩
  | p :: ps, m0 => by
    obtain ⟨a, b⟩ := putMg_get (m := m) hq ps (putMg m m0 p)
    have ne : p ≠ q → pget q (putMg m m0 p) = pget q m0 ∧ ptxt q (putMg m m0 p) = ptxt q m0 := fun h => pset_get h
    refine ⟨fun h2 => ⟨fun h => ?_, fun h => ?_⟩, fun h2 => ⟨fun h => ?_, fun h => ?_⟩⟩
    · rw [List.foldl_cons]
      by_cases hm : q ∈ ps
      · exact (a h2).1 hm
      · rw [(a h2).2 hm]
        have e : p = q := by rcases List.mem_cons.1 h with e | e; exact e.symm; exact absurd e hm
        subst e
        exact (pset_self hq).1 h2
    · rw [List.foldl_cons, (a h2).2 (fun e => h (List.mem_cons_of_mem _ e))]
      exact (ne (fun e => h (by rw [e]; exact List.mem_cons_self))).1
    · rw [List.foldl_cons]
      by_cases hm : q ∈ ps
      · exact (b h2).1 hm
      · rw [(b h2).2 hm]
        have e : p = q := by rcases List.mem_cons.1 h with e | e; exact e.symm; exact absurd e hm
        subst e
        exact (pset_self hq).2 h2
    · rw [List.foldl_cons, (b h2).2 (fun e => h (List.mem_cons_of_mem _ e))]
      exact (ne (fun e => h (by rw [e]; exact List.mem_cons_self))).2
theorem putMg_head {m : Mg} : ∀ (ps : List Nat) (m0 : Mg), (ps.foldl (putMg m) m0).kind = m0.kind ∧ (ps.foldl (putMg m) m0).frm = m0.frm ∧ (ps.foldl (putMg m) m0).to = m0.to ∧ (ps.foldl (putMg m) m0).shard = m0.shard ∧ (ps.foldl (putMg m) m0).v = m0.v
  | [], m0 => ⟨rfl, rfl, rfl, rfl, rfl⟩
  | p :: ps, m0 => by
    have h := putMg_head (m := m) ps (putMg m m0 p)
    have g : (putMg m m0 p).kind = m0.kind ∧ _ := pset_head
    exact ⟨h.1.trans g.1, h.2.1.trans g.2.1, h.2.2.1.trans g.2.2.1, h.2.2.2.1.trans g.2.2.2.1, h.2.2.2.2.trans g.2.2.2.2⟩
theorem ba_ext {a b : ByteArray} (h : a.data.toList = b.data.toList) : a = b := by
  cases a; cases b
  rw [ByteArray.mk.injEq]
  exact Array.toList_inj.1 h
theorem mg_ext {a b : Mg} (h1 : a.kind = b.kind) (h2 : a.frm = b.frm) (h3 : a.to = b.to) (h4 : a.shard = b.shard) (h5 : a.v = b.v) (hn : ∀ p < 18, pk p ≠ 2 → pget p a = pget p b) (ht : ∀ p < 18, pk p = 2 → ptxt p a = ptxt p b) : a = b := by
  have n0 : a.epoch = b.epoch := hn 0 (by decide) (by decide)
  have n1 : a.te = b.te := hn 1 (by decide) (by decide)
  have n2 : a.ts = b.ts := hn 2 (by decide) (by decide)
  have n3 : a.round = b.round := hn 3 (by decide) (by decide)
  have n4 : a.span = b.span := hn 4 (by decide) (by decide)
  have n5 : a.seen = b.seen := hn 5 (by decide) (by decide)
  have n7 : a.peer = b.peer := hn 7 (by decide) (by decide)
  have n8 : a.num = b.num := hn 8 (by decide) (by decide)
  have n11 : a.amount = b.amount := hn 11 (by decide) (by decide)
  have n12 : a.life = b.life := hn 12 (by decide) (by decide)
  have n13 : a.id = b.id := hn 13 (by decide) (by decide)
  have n14 : a.op = b.op := hn 14 (by decide) (by decide)
  have n15 : a.client = b.client := hn 15 (by decide) (by decide)
  have n16 : a.state = b.state := hn 16 (by decide) (by decide)
  have n17 : a.bad = b.bad := hn 17 (by decide) (by decide)
  have t6 : a.b = b.b := ht 6 (by decide) rfl
  have t9 : a.name = b.name := ba_ext (ht 9 (by decide) rfl)
  have t10 : a.other = b.other := ba_ext (ht 10 (by decide) rfl)
  cases a; cases b
  simp only at *
  subst h1 h2 h3 h4 h5 n0 n1 n2 n3 n4 n5 n7 n8 n11 n12 n13 n14 n15 n16 n17 t6 t9 t10
  rfl
theorem wrong_zero {m : Mg} (h : wrongM m = 0) : (1 ≤ m.kind ∧ m.kind ≤ 11) ∧ ((0 ≤ m.frm ∧ m.frm < 9) ∧ (0 ≤ m.to ∧ m.to < 9) ∧ (0 ≤ m.shard ∧ m.shard < 8)) ∧ ∀ p < 18, (p ∈ kp m.kind → mayB p m = true) ∧ (p ∉ kp m.kind → zeroB p m = true) := by
  unfold wrongM at h
  split at h
  · rename_i h1
    split at h
    · rename_i h2
      refine ⟨of_decide_eq_true h1, of_decide_eq_true h2.1, fun p hp => ?_⟩
      have := List.all_eq_true.1 h2.2 p (List.mem_range.2 hp)
      refine ⟨fun g => ?_, fun g => ?_⟩
      · simpa [g] using this
      · simpa [g] using this
    · exact absurd h (by decide)
  · exact absurd h (by decide)
theorem read_back {lim : Nat → Nat} {m : Mg} (h : wrongM m = 0) (hl : ∀ p ∈ kp m.kind, LimOk lim m p) : rdAll lim ⟨bodyM m, 0, 0⟩ = (⟨bodyM m, (bodyM m).length, 0⟩, m.bare) := by
  obtain ⟨hk, hh, hf⟩ := wrong_zero h
  obtain ⟨r0, hr0⟩ : ∃ r0 : RS, r0 = ⟨bodyM m, 0, 0⟩ := ⟨_, rfl⟩
  have B0 : Before r0 (fixB m.kind.toNat 1 ++ (fixB m.frm.toNat 1 ++ (fixB m.to.toNat 1 ++ (fixB m.shard.toNat 1 ++ (kp m.kind).flatMap fun p => bytP p m)))) := by
    refine ⟨by rw [hr0], ?_⟩
    have e : bodyM m = fixB m.kind.toNat 1 ++ (fixB m.frm.toNat 1 ++ (fixB m.to.toNat 1 ++ (fixB m.shard.toNat 1 ++ (kp m.kind).flatMap fun p => bytP p m))) := by
      unfold bodyM bodyH
      simp only [List.append_assoc]
    rw [← e, hr0]
    show ((bodyM m).drop 0).take _ = _
    rw [List.drop_zero, List.take_length]
  have fx : ∀ {r : RS} {n : Nat} {zs : List UInt8}, n < 256 → Before r (fixB n 1 ++ zs) → r.next 1 = { r with at_ := r.at_ + 1 } ∧ beN (r.nextB 1) = n ∧ Before (r.next 1) zs := by
    intro r n zs hn B
    have h1 := B.pre.next
    have h2 := B.suf
    rw [fixB_len] at h1 h2
    refine ⟨h1.1, ?_, ?_⟩
    · rw [h1.2, beN_fixB 1 n (by omega)]
    · rw [h1.1]; exact h2
  obtain ⟨a1, a2, B1⟩ := fx (by omega) B0
  obtain ⟨b1, b2, B2⟩ := fx (by omega) B1
  obtain ⟨c1, c2, B3⟩ := fx (by omega) B2
  obtain ⟨d1, d2, B4⟩ := fx (by omega) B3
  have hH : rdH r0 = (⟨bodyM m, 4, 0⟩, { mgz with kind := m.kind, frm := m.frm, to := m.to, shard := m.shard }) := by
    unfold rdH
    rw [d2, c2, b2, a2, d1, c1, b1, a1, hr0]
    rw [show ((m.kind.toNat : Nat) : Int) = m.kind by omega, show ((m.frm.toNat : Nat) : Int) = m.frm by omega, show ((m.to.toNat : Nat) : Int) = m.to by omega, show ((m.shard.toNat : Nat) : Int) = m.shard by omega]
  have B4 : Before ⟨bodyM m, 4, 0⟩ ((kp m.kind).flatMap fun p => bytP p m) := by
    have e : (((r0.next 1).next 1).next 1).next 1 = ⟨bodyM m, 4, 0⟩ := congrArg Prod.fst hH
    rw [← e]
    exact B4
  rw [← hr0]
  unfold rdAll
  rw [hH]
  show List.foldl (rdP1 lim) (⟨bodyM m, 4, 0⟩, _) (kp m.kind) = _
  rw [fold_back (kp m.kind) _ _ (fun p hp => ⟨(hf p (kp_lt.2 p hp)).1 hp, hl p hp⟩) B4]
  have hlen : 4 + ((kp m.kind).flatMap fun p => bytP p m).length = (bodyM m).length := by
    unfold bodyM bodyH
    simp only [List.length_append, fixB_len]
  refine Prod.ext ?_ ?_
  · show RS.mk (bodyM m) (4 + _) 0 = _
    rw [hlen]
  · show (kp m.kind).foldl (putMg m) _ = _
    obtain ⟨e1, e2, e3, e4, e5⟩ := putMg_head (m := m) (kp m.kind) { mgz with kind := m.kind, frm := m.frm, to := m.to, shard := m.shard }
    refine mg_ext e1 e2 e3 e4 e5 (fun p hp h2 => ?_) (fun p hp h2 => ?_)
    · have := (putMg_get (m := m) hp (kp m.kind) { mgz with kind := m.kind, frm := m.frm, to := m.to, shard := m.shard }).1 h2
      have hb : pget p m.bare = pget p m := rfl
      rw [hb]
      by_cases hm : p ∈ kp m.kind
      · exact this.1 hm
      · rw [this.2 hm]
        have hz := (hf p hp).2 hm
        unfold zeroB at hz
        rw [if_neg h2] at hz
        rw [of_decide_eq_true hz]
        unfold pget
        split <;> rfl
    · have := (putMg_get (m := m) hp (kp m.kind) { mgz with kind := m.kind, frm := m.frm, to := m.to, shard := m.shard }).2 h2
      have hb : ptxt p m.bare = ptxt p m := rfl
      rw [hb]
      by_cases hm : p ∈ kp m.kind
      · exact this.1 hm
      · rw [this.2 hm]
        have hz := (hf p hp).2 hm
        unfold zeroB at hz
        rw [if_pos h2] at hz
        rw [List.length_eq_zero_iff.1 (of_decide_eq_true hz)]
        unfold ptxt
        split <;> rfl
theorem txt_in {m : Mg} {p : Nat} (h : p ∈ kp m.kind) (h2 : pk p = 2) : (ptxt p m).length ≤ (bodyM m).length := by
  obtain ⟨a, b, e⟩ := List.append_of_mem h
  unfold bodyM
  rw [e, List.flatMap_append, List.flatMap_cons]
  simp only [List.length_append]
  have : bytP p m = varB (ptxt p m).length ++ ptxt p m := by unfold bytP; rw [if_pos h2]
  rw [this, List.length_append]
  omega
def rlim (n : Nat) : Nat → Nat := fun p => if pk p = 2 then n else 18446744073709551615
def decX (b : List UInt8) : Mg × Int := if (rdAll pmax ⟨b, 0, 0⟩).1.met = 0 ∧ (rdAll pmax ⟨b, 0, 0⟩).1.left = 0 ∧ wrongM (rdAll pmax ⟨b, 0, 0⟩).2 = 0 then ((rdAll pmax ⟨b, 0, 0⟩).2, 0) else (mgz, 81)
def refX (b : List UInt8) : Mg × Int := if wrongM (rdAll (rlim b.length) ⟨b, 0, 0⟩).2 = 0 ∧ bodyM (rdAll (rlim b.length) ⟨b, 0, 0⟩).2 = b then ((rdAll (rlim b.length) ⟨b, 0, 0⟩).2, 0) else (mgz, 81)
theorem lim_p {m : Mg} {p : Nat} (h : mayB p m = true) : LimOk pmax m p := ⟨fun h2 => may_txt h h2, fun _ => Nat.le_refl _⟩
theorem lim_r {m : Mg} {p n : Nat} (h : p ∈ kp m.kind) (hn : (bodyM m).length ≤ n) : LimOk (rlim n) m p := by
  refine ⟨fun h2 => ?_, fun h0 => ?_⟩
  · have := txt_in h h2
    unfold rlim
    rw [if_pos h2]
    omega
  · have := pmax_le p
    unfold rlim
    rw [if_neg (by omega)]
    omega
theorem read_p {m : Mg} (h : wrongM m = 0) : rdAll pmax ⟨bodyM m, 0, 0⟩ = (⟨bodyM m, (bodyM m).length, 0⟩, m.bare) := read_back h fun p hp => lim_p (((wrong_zero h).2.2 p (kp_lt.2 p hp)).1 hp)
theorem read_r {m : Mg} (h : wrongM m = 0) : rdAll (rlim (bodyM m).length) ⟨bodyM m, 0, 0⟩ = (⟨bodyM m, (bodyM m).length, 0⟩, m.bare) := read_back h fun p hp => lim_r hp (Nat.le_refl _)
theorem bare_wrong {m : Mg} : wrongM m.bare = wrongM m := rfl
theorem bare_body {m : Mg} : bodyM m.bare = bodyM m := rfl
theorem dec_of {m : Mg} (h : wrongM m = 0) : decX (bodyM m) = (m.bare, 0) := by
  unfold decX
  rw [read_p h]
  rw [if_pos ⟨rfl, by show (bodyM m).length - (bodyM m).length = 0; omega, h⟩]
theorem dec_ref {b : List UInt8} (hb : b.length ≤ 140737488355328) : decX b = refX b := by
  unfold decX
  split
  · rename_i h
    have e := read_was (lim := pmax) (by decide) hb h.1 h.2.1
    obtain ⟨m, hm⟩ : ∃ m, m = (rdAll pmax ⟨b, 0, 0⟩).2 := ⟨_, rfl⟩
    rw [← hm] at e h ⊢
    have e2 := read_r h.2.2
    have e3 := read_p h.2.2
    rw [e] at e2 e3
    have hbare : m = m.bare := by rw [e3] at hm; exact hm
    unfold refX
    rw [e2]
    rw [if_pos ⟨by rw [bare_wrong]; exact h.2.2, by rw [bare_body]; exact e⟩, ← hbare]
  · rename_i h
    unfold refX
    split
    · rename_i g
      exfalso
      obtain ⟨m, hm⟩ : ∃ m, m = (rdAll (rlim b.length) ⟨b, 0, 0⟩).2 := ⟨_, rfl⟩
      rw [← hm] at g
      have e3 := read_p g.1
      rw [g.2] at e3
      rw [e3] at h
      exact h ⟨rfl, by show b.length - b.length = 0; omega, g.1⟩
    · rfl
end Go.Proofs.YthiginhigfieiaaGreatDoor.V
namespace Go.Proofs.YthiginhigfieiaaGreatDoor.V
open Go Go.RowKit
set_option linter.unusedVariables false
set_option maxRecDepth 100000
def F_message_number_of  (at_1 : Option FV) (max2 : Int) (h : Heap) (Q : Option FV → Option FV → Option FV → Option FV → Heap → Prop) : Prop :=
  boxF 120 at_1 h fun (a3 : Addr) (h4 : Heap) =>
  al 44 [.int .u64 max2] h4 fun (a5 : Addr) (h6 : Heap) =>
  al 89 [.nilFunc, .nilFunc, .nilFunc, .nilFunc] h6 fun (a7 : Addr) (h8 : Heap) =>
  st a7 [.func (.func 122) #[] #[.pointer (some a3), .pointer (some a5)], .func (.func 123) #[] #[.pointer (some a3)], .func (.func 124) #[] #[.pointer (some a3)], .func (.func 125) #[] #[.pointer (some a5), .pointer (some a3)]] h8 fun (h9 : Heap) =>
  ld [.fn, .fn, .fn, .fn] a7 h9 fun (v10 v11 v12 v13 : Option FV) =>
  Q v10 v11 v12 v13 h9
def F_message_number (at_1 : Option FV) (max2 : Int) (h : Heap) (Q : Option FV → Option FV → Option FV → Option FV → Heap → Prop) : Prop := F_message_number_of  at_1 max2 h Q
def plan55 : Plan := .s (.r [2, 3, 4]) (.s (.r [4]) .z)
theorem F_message_number.eq  (at_1 : Option FV) (max2 : Int) (h : Heap) (K : YV) : F_message_number_of  at_1 max2 h (fun (r0 r1 r2 r3 : Option FV) (h : Heap) => K (.agg #[Kd.enc .fn r0, Kd.enc .fn r1, Kd.enc .fn r2, Kd.enc .fn r3]) h) =
    den Tryz.prog noFns Tryz.f55.ntmps plan55 (bodyOf Tryz.f55) (args0 0 [(Kd.enc .fn at_1 : Value), (.int .u64 max2 : Value)]) h (konF Tryz.f55 K) := by kernel_rfl
def E_message_number_of (f : Y24) : List Value → Heap → YV → Prop
  | [v0, v1], h, K => dec1 .fn v0 fun (at_1 : Option FV) =>
  dec1 (.int .u64) v1 fun (max2 : Int) =>
  f at_1 max2 h (fun (r0 r1 r2 r3 : Option FV) (h : Heap) => K (.agg #[Kd.enc .fn r0, Kd.enc .fn r1, Kd.enc .fn r2, Kd.enc .fn r3]) h)
  | _, _, _ => False
abbrev E_message_number := E_message_number_of F_message_number
theorem E_message_number.right : IsRight Tryz.prog 55 E_message_number := by
  refine isRight fun vs K w hh => ?_
  match vs, hh with
  | [v0, v1], hh =>
    unfold E_message_number E_message_number_of at hh
    replace hh := dec1_sound hh; obtain ⟨at_1, rfl, hh⟩ := hh
    replace hh := dec1_sound hh; obtain ⟨max2, rfl, hh⟩ := hh
    unfold F_message_number at hh
    exact calls_den noFns_right plan55 _ w K Tryz.func55 (by kernel_rfl) (by kernel_rfl) (Eq.mp (F_message_number.eq  at_1 max2 w.heap K) hh)
theorem ok55 : okFn Tryz.prog 55 = true := by kernel_rfl
def F_message_table_1_of  (m1 : Option Addr) (h : Heap) (Q : Option Addr → Heap → Prop) : Prop :=
  nn m1 fun (a2 : Addr) =>
  Q (some (a2.add 4)) h
def F_message_table_1 (m1 : Option Addr) (h : Heap) (Q : Option Addr → Heap → Prop) : Prop := F_message_table_1_of  m1 h Q
def plan56 : Plan := .s (.r [0]) (.s (.r [2]) .z)
theorem F_message_table_1.eq  (m1 : Option Addr) (h : Heap) (K : YV) : F_message_table_1_of  m1 h (fun (r0 : Option Addr) (h : Heap) => K (.pointer r0) h) =
    den Tryz.prog noFns Tryz.f56.ntmps plan56 (bodyOf Tryz.f56) (args0 0 [(.pointer m1 : Value)]) h (konF Tryz.f56 K) := by kernel_rfl
def E_message_table_1_of (f : Y1) : List Value → Heap → YV → Prop
  | [v0], h, K => dec1 .ptr v0 fun (m1 : Option Addr) =>
  f m1 h (fun (r0 : Option Addr) (h : Heap) => K (.pointer r0) h)
  | _, _, _ => False
abbrev E_message_table_1 := E_message_table_1_of F_message_table_1
theorem E_message_table_1.at (f : Y1) (m1 : Option Addr) (h : Heap) (K : YV) : E_message_table_1_of f [.pointer m1] h K = f m1 h (fun (r0 : Option Addr) (h : Heap) => K (.pointer r0) h) := rfl
theorem E_message_table_1.right : IsRight Tryz.prog 56 E_message_table_1 := by
  refine isRight fun vs K w hh => ?_
  match vs, hh with
  | [v0], hh =>
    unfold E_message_table_1 E_message_table_1_of at hh
    replace hh := dec1_sound hh; obtain ⟨m1, rfl, hh⟩ := hh
    unfold F_message_table_1 at hh
    exact calls_den noFns_right plan56 _ w K Tryz.func56 (by kernel_rfl) (by kernel_rfl) (Eq.mp (F_message_table_1.eq  m1 w.heap K) hh)
theorem ok56 : okFn Tryz.prog 56 = true := by kernel_rfl
def F_message_both_of  (a1 a2 a3 a4 b5 b6 b7 b8 : Option FV) (h : Heap) (Q : Option FV → Option FV → Option FV → Option FV → Heap → Prop) : Prop :=
  al 89 [Kd.enc .fn a1, Kd.enc .fn a2, Kd.enc .fn a3, Kd.enc .fn a4] h fun (a9 : Addr) (h10 : Heap) =>
  al 89 [Kd.enc .fn b5, Kd.enc .fn b6, Kd.enc .fn b7, Kd.enc .fn b8] h10 fun (a11 : Addr) (h12 : Heap) =>
  al 89 [.nilFunc, .nilFunc, .nilFunc, .nilFunc] h12 fun (a13 : Addr) (h14 : Heap) =>
  st a13 [.func (.func 126) #[] #[.pointer (some a9), .pointer (some a11)], .func (.func 127) #[] #[.pointer (some a9), .pointer (some a11)], .func (.func 128) #[] #[.pointer (some a9), .pointer (some a11)], .func (.func 129) #[] #[.pointer (some a9), .pointer (some a11)]] h14 fun (h15 : Heap) =>
  ld [.fn, .fn, .fn, .fn] a13 h15 fun (v16 v17 v18 v19 : Option FV) =>
  Q v16 v17 v18 v19 h15
def F_message_both (a1 a2 a3 a4 b5 b6 b7 b8 : Option FV) (h : Heap) (Q : Option FV → Option FV → Option FV → Option FV → Heap → Prop) : Prop := F_message_both_of  a1 a2 a3 a4 b5 b6 b7 b8 h Q
def plan57 : Plan := .s (.r [2, 3, 4]) (.s (.r [4]) .z)
theorem F_message_both.eq  (a1 a2 a3 a4 b5 b6 b7 b8 : Option FV) (h : Heap) (K : YV) : F_message_both_of  a1 a2 a3 a4 b5 b6 b7 b8 h (fun (r0 r1 r2 r3 : Option FV) (h : Heap) => K (.agg #[Kd.enc .fn r0, Kd.enc .fn r1, Kd.enc .fn r2, Kd.enc .fn r3]) h) =
    den Tryz.prog noFns Tryz.f57.ntmps plan57 (bodyOf Tryz.f57) (args0 0 [(.agg #[Kd.enc .fn a1, Kd.enc .fn a2, Kd.enc .fn a3, Kd.enc .fn a4] : Value), (.agg #[Kd.enc .fn b5, Kd.enc .fn b6, Kd.enc .fn b7, Kd.enc .fn b8] : Value)]) h (konF Tryz.f57 K) := by kernel_rfl
def E_message_both_of (f : Y29) : List Value → Heap → YV → Prop
  | [v0, v1], h, K => vAgg v0 fun cs0 => decs [.fn, .fn, .fn, .fn] cs0.toList fun (a1 a2 a3 a4 : Option FV) =>
  vAgg v1 fun cs1 => decs [.fn, .fn, .fn, .fn] cs1.toList fun (b5 b6 b7 b8 : Option FV) =>
  f a1 a2 a3 a4 b5 b6 b7 b8 h (fun (r0 r1 r2 r3 : Option FV) (h : Heap) => K (.agg #[Kd.enc .fn r0, Kd.enc .fn r1, Kd.enc .fn r2, Kd.enc .fn r3]) h)
  | _, _, _ => False
abbrev E_message_both := E_message_both_of F_message_both
theorem E_message_both.right : IsRight Tryz.prog 57 E_message_both := by
  refine isRight fun vs K w hh => ?_
  match vs, hh with
  | [v0, v1], hh =>
    unfold E_message_both E_message_both_of at hh
    replace hh := vAgg_sound hh; obtain ⟨cs0, rfl, hh⟩ := hh
    replace hh := decs_cons hh; obtain ⟨a1, l0_0, e0_0, hh⟩ := hh
    replace hh := decs_cons hh; obtain ⟨a2, l0_1, e0_1, hh⟩ := hh
    replace hh := decs_cons hh; obtain ⟨a3, l0_2, e0_2, hh⟩ := hh
    replace hh := decs_cons hh; obtain ⟨a4, l0_3, e0_3, hh⟩ := hh
    replace hh := decs_nil hh; obtain ⟨rfl, hh⟩ := hh
    subst e0_3
    subst e0_2
    subst e0_1
    have ec0 := toArray_eq e0_0
    subst ec0
    replace hh := vAgg_sound hh; obtain ⟨cs1, rfl, hh⟩ := hh
    replace hh := decs_cons hh; obtain ⟨b5, l1_0, e1_0, hh⟩ := hh
    replace hh := decs_cons hh; obtain ⟨b6, l1_1, e1_1, hh⟩ := hh
    replace hh := decs_cons hh; obtain ⟨b7, l1_2, e1_2, hh⟩ := hh
    replace hh := decs_cons hh; obtain ⟨b8, l1_3, e1_3, hh⟩ := hh
    replace hh := decs_nil hh; obtain ⟨rfl, hh⟩ := hh
    subst e1_3
    subst e1_2
    subst e1_1
    have ec1 := toArray_eq e1_0
    subst ec1
    unfold F_message_both at hh
    exact calls_den noFns_right plan57 _ w K Tryz.func57 (by kernel_rfl) (by kernel_rfl) (Eq.mp (F_message_both.eq  a1 a2 a3 a4 b5 b6 b7 b8 w.heap K) hh)
theorem ok57 : okFn Tryz.prog 57 = true := by kernel_rfl
def F_message_table_2_of  (m1 : Option Addr) (h : Heap) (Q : Option Addr → Heap → Prop) : Prop :=
  nn m1 fun (a2 : Addr) =>
  Q (some ((a2.add 5).add 0)) h
def F_message_table_2 (m1 : Option Addr) (h : Heap) (Q : Option Addr → Heap → Prop) : Prop := F_message_table_2_of  m1 h Q
def plan58 : Plan := .s (.r [0]) (.s (.r [2]) .z)
theorem F_message_table_2.eq  (m1 : Option Addr) (h : Heap) (K : YV) : F_message_table_2_of  m1 h (fun (r0 : Option Addr) (h : Heap) => K (.pointer r0) h) =
    den Tryz.prog noFns Tryz.f58.ntmps plan58 (bodyOf Tryz.f58) (args0 0 [(.pointer m1 : Value)]) h (konF Tryz.f58 K) := by kernel_rfl
def E_message_table_2_of (f : Y1) : List Value → Heap → YV → Prop
  | [v0], h, K => dec1 .ptr v0 fun (m1 : Option Addr) =>
  f m1 h (fun (r0 : Option Addr) (h : Heap) => K (.pointer r0) h)
  | _, _, _ => False
abbrev E_message_table_2 := E_message_table_2_of F_message_table_2
theorem E_message_table_2.at (f : Y1) (m1 : Option Addr) (h : Heap) (K : YV) : E_message_table_2_of f [.pointer m1] h K = f m1 h (fun (r0 : Option Addr) (h : Heap) => K (.pointer r0) h) := rfl
theorem E_message_table_2.right : IsRight Tryz.prog 58 E_message_table_2 := by
  refine isRight fun vs K w hh => ?_
  match vs, hh with
  | [v0], hh =>
    unfold E_message_table_2 E_message_table_2_of at hh
    replace hh := dec1_sound hh; obtain ⟨m1, rfl, hh⟩ := hh
    unfold F_message_table_2 at hh
    exact calls_den noFns_right plan58 _ w K Tryz.func58 (by kernel_rfl) (by kernel_rfl) (Eq.mp (F_message_table_2.eq  m1 w.heap K) hh)
theorem ok58 : okFn Tryz.prog 58 = true := by kernel_rfl
def F_message_table_3_of  (m1 : Option Addr) (h : Heap) (Q : Option Addr → Heap → Prop) : Prop :=
  nn m1 fun (a2 : Addr) =>
  Q (some ((a2.add 5).add 1)) h
def F_message_table_3 (m1 : Option Addr) (h : Heap) (Q : Option Addr → Heap → Prop) : Prop := F_message_table_3_of  m1 h Q
def plan59 : Plan := .s (.r [0]) (.s (.r [2]) .z)
theorem F_message_table_3.eq  (m1 : Option Addr) (h : Heap) (K : YV) : F_message_table_3_of  m1 h (fun (r0 : Option Addr) (h : Heap) => K (.pointer r0) h) =
    den Tryz.prog noFns Tryz.f59.ntmps plan59 (bodyOf Tryz.f59) (args0 0 [(.pointer m1 : Value)]) h (konF Tryz.f59 K) := by kernel_rfl
def E_message_table_3_of (f : Y1) : List Value → Heap → YV → Prop
  | [v0], h, K => dec1 .ptr v0 fun (m1 : Option Addr) =>
  f m1 h (fun (r0 : Option Addr) (h : Heap) => K (.pointer r0) h)
  | _, _, _ => False
abbrev E_message_table_3 := E_message_table_3_of F_message_table_3
theorem E_message_table_3.at (f : Y1) (m1 : Option Addr) (h : Heap) (K : YV) : E_message_table_3_of f [.pointer m1] h K = f m1 h (fun (r0 : Option Addr) (h : Heap) => K (.pointer r0) h) := rfl
theorem E_message_table_3.right : IsRight Tryz.prog 59 E_message_table_3 := by
  refine isRight fun vs K w hh => ?_
  match vs, hh with
  | [v0], hh =>
    unfold E_message_table_3 E_message_table_3_of at hh
    replace hh := dec1_sound hh; obtain ⟨m1, rfl, hh⟩ := hh
    unfold F_message_table_3 at hh
    exact calls_den noFns_right plan59 _ w K Tryz.func59 (by kernel_rfl) (by kernel_rfl) (Eq.mp (F_message_table_3.eq  m1 w.heap K) hh)
theorem ok59 : okFn Tryz.prog 59 = true := by kernel_rfl
def F_message_table_4_of  (m1 : Option Addr) (h : Heap) (Q : Option Addr → Heap → Prop) : Prop :=
  nn m1 fun (a2 : Addr) =>
  Q (some (a2.add 7)) h
def F_message_table_4 (m1 : Option Addr) (h : Heap) (Q : Option Addr → Heap → Prop) : Prop := F_message_table_4_of  m1 h Q
def plan60 : Plan := .s (.r [0]) (.s (.r [2]) .z)
theorem F_message_table_4.eq  (m1 : Option Addr) (h : Heap) (K : YV) : F_message_table_4_of  m1 h (fun (r0 : Option Addr) (h : Heap) => K (.pointer r0) h) =
    den Tryz.prog noFns Tryz.f60.ntmps plan60 (bodyOf Tryz.f60) (args0 0 [(.pointer m1 : Value)]) h (konF Tryz.f60 K) := by kernel_rfl
def E_message_table_4_of (f : Y1) : List Value → Heap → YV → Prop
  | [v0], h, K => dec1 .ptr v0 fun (m1 : Option Addr) =>
  f m1 h (fun (r0 : Option Addr) (h : Heap) => K (.pointer r0) h)
  | _, _, _ => False
abbrev E_message_table_4 := E_message_table_4_of F_message_table_4
theorem E_message_table_4.at (f : Y1) (m1 : Option Addr) (h : Heap) (K : YV) : E_message_table_4_of f [.pointer m1] h K = f m1 h (fun (r0 : Option Addr) (h : Heap) => K (.pointer r0) h) := rfl
theorem E_message_table_4.right : IsRight Tryz.prog 60 E_message_table_4 := by
  refine isRight fun vs K w hh => ?_
  match vs, hh with
  | [v0], hh =>
    unfold E_message_table_4 E_message_table_4_of at hh
    replace hh := dec1_sound hh; obtain ⟨m1, rfl, hh⟩ := hh
    unfold F_message_table_4 at hh
    exact calls_den noFns_right plan60 _ w K Tryz.func60 (by kernel_rfl) (by kernel_rfl) (Eq.mp (F_message_table_4.eq  m1 w.heap K) hh)
theorem ok60 : okFn Tryz.prog 60 = true := by kernel_rfl
def F_message_table_5_of  (m1 : Option Addr) (h : Heap) (Q : Bool → Heap → Prop) : Prop :=
  jn [(2, .one .bool)] (fun (x7 : Bool) (h8 : Heap) =>
  Q x7 h8) (fun (j2 : Bool → Heap → Prop) =>
  nn m1 fun (a3 : Addr) =>
  ld [.int .i64] (a3.add 8) h fun (v4 : Int) =>
  brr (decide (v4 ≥ 0))
  (nn m1 fun (a5 : Addr) =>
  ld [.int .i64] (a5.add 8) h fun (v6 : Int) =>
  j2 (decide (v6 ≤ 1025)) h)
  (j2 false h))
def F_message_table_5 (m1 : Option Addr) (h : Heap) (Q : Bool → Heap → Prop) : Prop := F_message_table_5_of  m1 h Q
def plan61 : Plan := .s (.r [0]) (.s (.rj [(2, .one .bool)] []) .z)
theorem F_message_table_5.eq  (m1 : Option Addr) (h : Heap) (K : YV) : F_message_table_5_of  m1 h (fun (r0 : Bool) (h : Heap) => K (.bool r0) h) =
    den Tryz.prog noFns Tryz.f61.ntmps plan61 (bodyOf Tryz.f61) (args0 0 [(.pointer m1 : Value)]) h (konF Tryz.f61 K) := by kernel_rfl
def E_message_table_5_of (f : Y3) : List Value → Heap → YV → Prop
  | [v0], h, K => dec1 .ptr v0 fun (m1 : Option Addr) =>
  f m1 h (fun (r0 : Bool) (h : Heap) => K (.bool r0) h)
  | _, _, _ => False
abbrev E_message_table_5 := E_message_table_5_of F_message_table_5
theorem E_message_table_5.at (f : Y3) (m1 : Option Addr) (h : Heap) (K : YV) : E_message_table_5_of f [.pointer m1] h K = f m1 h (fun (r0 : Bool) (h : Heap) => K (.bool r0) h) := rfl
theorem E_message_table_5.right : IsRight Tryz.prog 61 E_message_table_5 := by
  refine isRight fun vs K w hh => ?_
  match vs, hh with
  | [v0], hh =>
    unfold E_message_table_5 E_message_table_5_of at hh
    replace hh := dec1_sound hh; obtain ⟨m1, rfl, hh⟩ := hh
    unfold F_message_table_5 at hh
    exact calls_den noFns_right plan61 _ w K Tryz.func61 (by kernel_rfl) (by kernel_rfl) (Eq.mp (F_message_table_5.eq  m1 w.heap K) hh)
theorem ok61 : okFn Tryz.prog 61 = true := by kernel_rfl
def F_message_table_6_of  (m1 : Option Addr) (h : Heap) (Q : Bool → Heap → Prop) : Prop :=
  nn m1 fun (a2 : Addr) =>
  ld [.int .i64] (a2.add 8) h fun (v3 : Int) =>
  Q (v3 == 0) h
def F_message_table_6 (m1 : Option Addr) (h : Heap) (Q : Bool → Heap → Prop) : Prop := F_message_table_6_of  m1 h Q
def plan62 : Plan := .s (.r [0]) (.s (.r [2]) .z)
theorem F_message_table_6.eq  (m1 : Option Addr) (h : Heap) (K : YV) : F_message_table_6_of  m1 h (fun (r0 : Bool) (h : Heap) => K (.bool r0) h) =
    den Tryz.prog noFns Tryz.f62.ntmps plan62 (bodyOf Tryz.f62) (args0 0 [(.pointer m1 : Value)]) h (konF Tryz.f62 K) := by kernel_rfl
def E_message_table_6_of (f : Y3) : List Value → Heap → YV → Prop
  | [v0], h, K => dec1 .ptr v0 fun (m1 : Option Addr) =>
  f m1 h (fun (r0 : Bool) (h : Heap) => K (.bool r0) h)
  | _, _, _ => False
abbrev E_message_table_6 := E_message_table_6_of F_message_table_6
theorem E_message_table_6.at (f : Y3) (m1 : Option Addr) (h : Heap) (K : YV) : E_message_table_6_of f [.pointer m1] h K = f m1 h (fun (r0 : Bool) (h : Heap) => K (.bool r0) h) := rfl
theorem E_message_table_6.right : IsRight Tryz.prog 62 E_message_table_6 := by
  refine isRight fun vs K w hh => ?_
  match vs, hh with
  | [v0], hh =>
    unfold E_message_table_6 E_message_table_6_of at hh
    replace hh := dec1_sound hh; obtain ⟨m1, rfl, hh⟩ := hh
    unfold F_message_table_6 at hh
    exact calls_den noFns_right plan62 _ w K Tryz.func62 (by kernel_rfl) (by kernel_rfl) (Eq.mp (F_message_table_6.eq  m1 w.heap K) hh)
theorem ok62 : okFn Tryz.prog 62 = true := by kernel_rfl
def F_message_table_7_of (f64_ : Y8) (w1 m2 : Option Addr) (h : Heap) (Q : Heap → Prop) : Prop :=
  nn m2 fun (a3 : Addr) =>
  ld [.int .i64] (a3.add 8) h fun (v4 : Int) =>
  f64_ w1 (IntKind.u64.wrap v4) h fun  (h5 : Heap) =>
  Q h5
def F_message_table_7 (w1 m2 : Option Addr) (h : Heap) (Q : Heap → Prop) : Prop := F_message_table_7_of F_code_Writer_Var w1 m2 h Q
def plan63 : Plan := .r []
theorem F_message_table_7.eq (f64_ : Y8) (w1 m2 : Option Addr) (h : Heap) (K : YV) : F_message_table_7_of f64_ w1 m2 h (fun  (h : Heap) => K (.tuple #[]) h) =
    den Tryz.prog (fn1 64 (E_code_Writer_Var_of f64_) noFns) Tryz.f63.ntmps plan63 (bodyOf Tryz.f63) (args0 0 [(.pointer w1 : Value), (.pointer m2 : Value)]) h (konF Tryz.f63 K) := by kernel_rfl
def E_message_table_7_of (f : Y4) : List Value → Heap → YV → Prop
  | [v0, v1], h, K => dec1 .ptr v0 fun (w1 : Option Addr) =>
  dec1 .ptr v1 fun (m2 : Option Addr) =>
  f w1 m2 h (fun  (h : Heap) => K (.tuple #[]) h)
  | _, _, _ => False
abbrev E_message_table_7 := E_message_table_7_of F_message_table_7
theorem E_message_table_7.at (f : Y4) (w1 m2 : Option Addr) (h : Heap) (K : YV) : E_message_table_7_of f [.pointer w1, .pointer m2] h K = f w1 m2 h (fun  (h : Heap) => K (.tuple #[]) h) := rfl
theorem E_message_table_7.right : IsRight Tryz.prog 63 E_message_table_7 := by
  refine isRight fun vs K w hh => ?_
  match vs, hh with
  | [v0, v1], hh =>
    unfold E_message_table_7 E_message_table_7_of at hh
    replace hh := dec1_sound hh; obtain ⟨w1, rfl, hh⟩ := hh
    replace hh := dec1_sound hh; obtain ⟨m2, rfl, hh⟩ := hh
    unfold F_message_table_7 at hh
    exact calls_den (fn1_right ok64 E_code_Writer_Var.right noFns_right) plan63 _ w K Tryz.func63 (by kernel_rfl) (by kernel_rfl) (Eq.mp (F_message_table_7.eq F_code_Writer_Var w1 m2 w.heap K) hh)
theorem ok63 : okFn Tryz.prog 63 = true := by kernel_rfl
def F_message_table_8_of (f66_ : Y10) (r1 m2 : Option Addr) (h : Heap) (Q : Heap → Prop) : Prop :=
  f66_ r1 1025 h fun (r3 : Int) (h4 : Heap) =>
  nn m2 fun (a5 : Addr) =>
  st (a5.add 8) [.int .i64 (IntKind.i64.wrap r3)] h4 fun (h6 : Heap) =>
  Q h6
def F_message_table_8 (r1 m2 : Option Addr) (h : Heap) (Q : Heap → Prop) : Prop := F_message_table_8_of F_code_Reader_Var r1 m2 h Q
def plan65 : Plan := .r []
theorem F_message_table_8.eq (f66_ : Y10) (r1 m2 : Option Addr) (h : Heap) (K : YV) : F_message_table_8_of f66_ r1 m2 h (fun  (h : Heap) => K (.tuple #[]) h) =
    den Tryz.prog (fn1 66 (E_code_Reader_Var_of f66_) noFns) Tryz.f65.ntmps plan65 (bodyOf Tryz.f65) (args0 0 [(.pointer r1 : Value), (.pointer m2 : Value)]) h (konF Tryz.f65 K) := by kernel_rfl
def E_message_table_8_of (f : Y4) : List Value → Heap → YV → Prop
  | [v0, v1], h, K => dec1 .ptr v0 fun (r1 : Option Addr) =>
  dec1 .ptr v1 fun (m2 : Option Addr) =>
  f r1 m2 h (fun  (h : Heap) => K (.tuple #[]) h)
  | _, _, _ => False
abbrev E_message_table_8 := E_message_table_8_of F_message_table_8
theorem E_message_table_8.at (f : Y4) (r1 m2 : Option Addr) (h : Heap) (K : YV) : E_message_table_8_of f [.pointer r1, .pointer m2] h K = f r1 m2 h (fun  (h : Heap) => K (.tuple #[]) h) := rfl
theorem E_message_table_8.right : IsRight Tryz.prog 65 E_message_table_8 := by
  refine isRight fun vs K w hh => ?_
  match vs, hh with
  | [v0, v1], hh =>
    unfold E_message_table_8 E_message_table_8_of at hh
    replace hh := dec1_sound hh; obtain ⟨r1, rfl, hh⟩ := hh
    replace hh := dec1_sound hh; obtain ⟨m2, rfl, hh⟩ := hh
    unfold F_message_table_8 at hh
    exact calls_den (fn1_right ok66 E_code_Reader_Var.right noFns_right) plan65 _ w K Tryz.func65 (by kernel_rfl) (by kernel_rfl) (Eq.mp (F_message_table_8.eq F_code_Reader_Var r1 m2 w.heap K) hh)
theorem ok65 : okFn Tryz.prog 65 = true := by kernel_rfl
def F_message_table_9_of  (m1 : Option Addr) (h : Heap) (Q : Option Addr → Heap → Prop) : Prop :=
  nn m1 fun (a2 : Addr) =>
  Q (some (a2.add 9)) h
def F_message_table_9 (m1 : Option Addr) (h : Heap) (Q : Option Addr → Heap → Prop) : Prop := F_message_table_9_of  m1 h Q
def plan67 : Plan := .s (.r [0]) (.s (.r [2]) .z)
theorem F_message_table_9.eq  (m1 : Option Addr) (h : Heap) (K : YV) : F_message_table_9_of  m1 h (fun (r0 : Option Addr) (h : Heap) => K (.pointer r0) h) =
    den Tryz.prog noFns Tryz.f67.ntmps plan67 (bodyOf Tryz.f67) (args0 0 [(.pointer m1 : Value)]) h (konF Tryz.f67 K) := by kernel_rfl
def E_message_table_9_of (f : Y1) : List Value → Heap → YV → Prop
  | [v0], h, K => dec1 .ptr v0 fun (m1 : Option Addr) =>
  f m1 h (fun (r0 : Option Addr) (h : Heap) => K (.pointer r0) h)
  | _, _, _ => False
abbrev E_message_table_9 := E_message_table_9_of F_message_table_9
theorem E_message_table_9.at (f : Y1) (m1 : Option Addr) (h : Heap) (K : YV) : E_message_table_9_of f [.pointer m1] h K = f m1 h (fun (r0 : Option Addr) (h : Heap) => K (.pointer r0) h) := rfl
theorem E_message_table_9.right : IsRight Tryz.prog 67 E_message_table_9 := by
  refine isRight fun vs K w hh => ?_
  match vs, hh with
  | [v0], hh =>
    unfold E_message_table_9 E_message_table_9_of at hh
    replace hh := dec1_sound hh; obtain ⟨m1, rfl, hh⟩ := hh
    unfold F_message_table_9 at hh
    exact calls_den noFns_right plan67 _ w K Tryz.func67 (by kernel_rfl) (by kernel_rfl) (Eq.mp (F_message_table_9.eq  m1 w.heap K) hh)
theorem ok67 : okFn Tryz.prog 67 = true := by kernel_rfl
def F_message_table_10_of  (m1 : Option Addr) (h : Heap) (Q : Bool → Heap → Prop) : Prop :=
  nn m1 fun (a2 : Addr) =>
  ld [.sl] (a2.add 10) h fun (v3 : Sl) =>
  Q (decide (((v3.len : Nat) : Int) ≤ 16384)) h
def F_message_table_10 (m1 : Option Addr) (h : Heap) (Q : Bool → Heap → Prop) : Prop := F_message_table_10_of  m1 h Q
def plan68 : Plan := .s (.r [0]) (.s (.r [2]) .z)
theorem F_message_table_10.eq  (m1 : Option Addr) (h : Heap) (K : YV) : F_message_table_10_of  m1 h (fun (r0 : Bool) (h : Heap) => K (.bool r0) h) =
    den Tryz.prog noFns Tryz.f68.ntmps plan68 (bodyOf Tryz.f68) (args0 0 [(.pointer m1 : Value)]) h (konF Tryz.f68 K) := by kernel_rfl
def E_message_table_10_of (f : Y3) : List Value → Heap → YV → Prop
  | [v0], h, K => dec1 .ptr v0 fun (m1 : Option Addr) =>
  f m1 h (fun (r0 : Bool) (h : Heap) => K (.bool r0) h)
  | _, _, _ => False
abbrev E_message_table_10 := E_message_table_10_of F_message_table_10
theorem E_message_table_10.at (f : Y3) (m1 : Option Addr) (h : Heap) (K : YV) : E_message_table_10_of f [.pointer m1] h K = f m1 h (fun (r0 : Bool) (h : Heap) => K (.bool r0) h) := rfl
theorem E_message_table_10.right : IsRight Tryz.prog 68 E_message_table_10 := by
  refine isRight fun vs K w hh => ?_
  match vs, hh with
  | [v0], hh =>
    unfold E_message_table_10 E_message_table_10_of at hh
    replace hh := dec1_sound hh; obtain ⟨m1, rfl, hh⟩ := hh
    unfold F_message_table_10 at hh
    exact calls_den noFns_right plan68 _ w K Tryz.func68 (by kernel_rfl) (by kernel_rfl) (Eq.mp (F_message_table_10.eq  m1 w.heap K) hh)
theorem ok68 : okFn Tryz.prog 68 = true := by kernel_rfl
def F_message_table_11_of  (m1 : Option Addr) (h : Heap) (Q : Bool → Heap → Prop) : Prop :=
  nn m1 fun (a2 : Addr) =>
  ld [.sl] (a2.add 10) h fun (v3 : Sl) =>
  Q (((v3.len : Nat) : Int) == 0) h
def F_message_table_11 (m1 : Option Addr) (h : Heap) (Q : Bool → Heap → Prop) : Prop := F_message_table_11_of  m1 h Q
def plan69 : Plan := .s (.r [0]) (.s (.r [2]) .z)
theorem F_message_table_11.eq  (m1 : Option Addr) (h : Heap) (K : YV) : F_message_table_11_of  m1 h (fun (r0 : Bool) (h : Heap) => K (.bool r0) h) =
    den Tryz.prog noFns Tryz.f69.ntmps plan69 (bodyOf Tryz.f69) (args0 0 [(.pointer m1 : Value)]) h (konF Tryz.f69 K) := by kernel_rfl
def E_message_table_11_of (f : Y3) : List Value → Heap → YV → Prop
  | [v0], h, K => dec1 .ptr v0 fun (m1 : Option Addr) =>
  f m1 h (fun (r0 : Bool) (h : Heap) => K (.bool r0) h)
  | _, _, _ => False
abbrev E_message_table_11 := E_message_table_11_of F_message_table_11
theorem E_message_table_11.at (f : Y3) (m1 : Option Addr) (h : Heap) (K : YV) : E_message_table_11_of f [.pointer m1] h K = f m1 h (fun (r0 : Bool) (h : Heap) => K (.bool r0) h) := rfl
theorem E_message_table_11.right : IsRight Tryz.prog 69 E_message_table_11 := by
  refine isRight fun vs K w hh => ?_
  match vs, hh with
  | [v0], hh =>
    unfold E_message_table_11 E_message_table_11_of at hh
    replace hh := dec1_sound hh; obtain ⟨m1, rfl, hh⟩ := hh
    unfold F_message_table_11 at hh
    exact calls_den noFns_right plan69 _ w K Tryz.func69 (by kernel_rfl) (by kernel_rfl) (Eq.mp (F_message_table_11.eq  m1 w.heap K) hh)
theorem ok69 : okFn Tryz.prog 69 = true := by kernel_rfl
def F_message_table_12_of (f71_ : Y16) (w1 m2 : Option Addr) (h : Heap) (Q : Heap → Prop) : Prop :=
  nn m2 fun (a3 : Addr) =>
  ld [.sl] (a3.add 10) h fun (v4 : Sl) =>
  f71_ w1 v4 h fun  (h5 : Heap) =>
  Q h5
def F_message_table_12 (w1 m2 : Option Addr) (h : Heap) (Q : Heap → Prop) : Prop := F_message_table_12_of F_code_Writer_Bytes w1 m2 h Q
def plan70 : Plan := .r []
theorem F_message_table_12.eq (f71_ : Y16) (w1 m2 : Option Addr) (h : Heap) (K : YV) : F_message_table_12_of f71_ w1 m2 h (fun  (h : Heap) => K (.tuple #[]) h) =
    den Tryz.prog (fn1 71 (E_code_Writer_Bytes_of f71_) noFns) Tryz.f70.ntmps plan70 (bodyOf Tryz.f70) (args0 0 [(.pointer w1 : Value), (.pointer m2 : Value)]) h (konF Tryz.f70 K) := by kernel_rfl
def E_message_table_12_of (f : Y4) : List Value → Heap → YV → Prop
  | [v0, v1], h, K => dec1 .ptr v0 fun (w1 : Option Addr) =>
  dec1 .ptr v1 fun (m2 : Option Addr) =>
  f w1 m2 h (fun  (h : Heap) => K (.tuple #[]) h)
  | _, _, _ => False
abbrev E_message_table_12 := E_message_table_12_of F_message_table_12
theorem E_message_table_12.at (f : Y4) (w1 m2 : Option Addr) (h : Heap) (K : YV) : E_message_table_12_of f [.pointer w1, .pointer m2] h K = f w1 m2 h (fun  (h : Heap) => K (.tuple #[]) h) := rfl
theorem E_message_table_12.right : IsRight Tryz.prog 70 E_message_table_12 := by
  refine isRight fun vs K w hh => ?_
  match vs, hh with
  | [v0, v1], hh =>
    unfold E_message_table_12 E_message_table_12_of at hh
    replace hh := dec1_sound hh; obtain ⟨w1, rfl, hh⟩ := hh
    replace hh := dec1_sound hh; obtain ⟨m2, rfl, hh⟩ := hh
    unfold F_message_table_12 at hh
    exact calls_den (fn1_right ok71 E_code_Writer_Bytes.right noFns_right) plan70 _ w K Tryz.func70 (by kernel_rfl) (by kernel_rfl) (Eq.mp (F_message_table_12.eq F_code_Writer_Bytes w1 m2 w.heap K) hh)
theorem ok70 : okFn Tryz.prog 70 = true := by kernel_rfl
def F_bytes_Clone_of  (b1 : Sl) (h : Heap) (Q : Sl → Heap → Prop) : Prop :=
  brr b1.ptr.isNone
  (Q (⟨none, 0, 0⟩ : Sl) h)
  (al 5 [] h fun (a2 : Addr) (h3 : Heap) =>
  app 5 1 1 (.int .u8 0) ⟨(some a2), 0, 0⟩ b1.ptr b1.len h3 fun (s4 : Sl) (h5 : Heap) =>
  Q s4 h5)
def F_bytes_Clone (b1 : Sl) (h : Heap) (Q : Sl → Heap → Prop) : Prop := F_bytes_Clone_of  b1 h Q
def plan73 : Plan := .s (.r [0]) (.s (.s (.r [0, 4]) (.c (.s (.r [2]) .z) .z)) (.s (.r [2]) .z))
theorem F_bytes_Clone.eq  (b1 : Sl) (h : Heap) (K : YV) : F_bytes_Clone_of  b1 h (fun (r0 : Sl) (h : Heap) => K (.slice r0.ptr r0.len r0.cap) h) =
    den Tryz.prog noFns Tryz.f73.ntmps plan73 (bodyOf Tryz.f73) (args0 0 [(.slice b1.ptr b1.len b1.cap : Value)]) h (konF Tryz.f73 K) := by kernel_rfl
def E_bytes_Clone_of (f : Y7) : List Value → Heap → YV → Prop
  | [v0], h, K => dec1 .sl v0 fun (b1 : Sl) =>
  f b1 h (fun (r0 : Sl) (h : Heap) => K (.slice r0.ptr r0.len r0.cap) h)
  | _, _, _ => False
abbrev E_bytes_Clone := E_bytes_Clone_of F_bytes_Clone
theorem E_bytes_Clone.right : IsRight Tryz.prog 73 E_bytes_Clone := by
  refine isRight fun vs K w hh => ?_
  match vs, hh with
  | [v0], hh =>
    unfold E_bytes_Clone E_bytes_Clone_of at hh
    replace hh := dec1_sound hh; obtain ⟨b1, rfl, hh⟩ := hh
    unfold F_bytes_Clone at hh
    exact calls_den noFns_right plan73 _ w K Tryz.func73 (by kernel_rfl) (by kernel_rfl) (Eq.mp (F_bytes_Clone.eq  b1 w.heap K) hh)
theorem ok73 : okFn Tryz.prog 73 = true := by kernel_rfl
def F_message_table_13_of (f73_ : Y7) (f74_ : Y11) (r1 m2 : Option Addr) (h : Heap) (Q : Heap → Prop) : Prop :=
  f74_ r1 16384 h fun (r3 : Sl) (h4 : Heap) =>
  f73_ r3 h4 fun (r5 : Sl) (h6 : Heap) =>
  nn m2 fun (a7 : Addr) =>
  st (a7.add 10) [.slice r5.ptr r5.len r5.cap] h6 fun (h8 : Heap) =>
  Q h8
def F_message_table_13 (r1 m2 : Option Addr) (h : Heap) (Q : Heap → Prop) : Prop := F_message_table_13_of F_bytes_Clone F_code_Reader_Bytes r1 m2 h Q
def plan72 : Plan := .r []
theorem F_message_table_13.eq (f73_ : Y7) (f74_ : Y11) (r1 m2 : Option Addr) (h : Heap) (K : YV) : F_message_table_13_of f73_ f74_ r1 m2 h (fun  (h : Heap) => K (.tuple #[]) h) =
    den Tryz.prog (fn1 73 (E_bytes_Clone_of f73_) (fn1 74 (E_code_Reader_Bytes_of f74_) noFns)) Tryz.f72.ntmps plan72 (bodyOf Tryz.f72) (args0 0 [(.pointer r1 : Value), (.pointer m2 : Value)]) h (konF Tryz.f72 K) := by kernel_rfl
def E_message_table_13_of (f : Y4) : List Value → Heap → YV → Prop
  | [v0, v1], h, K => dec1 .ptr v0 fun (r1 : Option Addr) =>
  dec1 .ptr v1 fun (m2 : Option Addr) =>
  f r1 m2 h (fun  (h : Heap) => K (.tuple #[]) h)
  | _, _, _ => False
abbrev E_message_table_13 := E_message_table_13_of F_message_table_13
theorem E_message_table_13.at (f : Y4) (r1 m2 : Option Addr) (h : Heap) (K : YV) : E_message_table_13_of f [.pointer r1, .pointer m2] h K = f r1 m2 h (fun  (h : Heap) => K (.tuple #[]) h) := rfl
theorem E_message_table_13.right : IsRight Tryz.prog 72 E_message_table_13 := by
  refine isRight fun vs K w hh => ?_
  match vs, hh with
  | [v0, v1], hh =>
    unfold E_message_table_13 E_message_table_13_of at hh
    replace hh := dec1_sound hh; obtain ⟨r1, rfl, hh⟩ := hh
    replace hh := dec1_sound hh; obtain ⟨m2, rfl, hh⟩ := hh
    unfold F_message_table_13 at hh
    exact calls_den (fn1_right ok73 E_bytes_Clone.right (fn1_right ok74 E_code_Reader_Bytes.right noFns_right)) plan72 _ w K Tryz.func72 (by kernel_rfl) (by kernel_rfl) (Eq.mp (F_message_table_13.eq F_bytes_Clone F_code_Reader_Bytes r1 m2 w.heap K) hh)
theorem ok72 : okFn Tryz.prog 72 = true := by kernel_rfl
def F_message_small_of  (at_1 : Option FV) (max2 : Int) (h : Heap) (Q : Option FV → Option FV → Option FV → Option FV → Heap → Prop) : Prop :=
  boxF 126 at_1 h fun (a3 : Addr) (h4 : Heap) =>
  al 3 [.int .i64 max2] h4 fun (a5 : Addr) (h6 : Heap) =>
  al 89 [.nilFunc, .nilFunc, .nilFunc, .nilFunc] h6 fun (a7 : Addr) (h8 : Heap) =>
  st a7 [.func (.func 134) #[] #[.pointer (some a3), .pointer (some a5)], .func (.func 135) #[] #[.pointer (some a3)], .func (.func 136) #[] #[.pointer (some a3)], .func (.func 137) #[] #[.pointer (some a3)]] h8 fun (h9 : Heap) =>
  ld [.fn, .fn, .fn, .fn] a7 h9 fun (v10 v11 v12 v13 : Option FV) =>
  Q v10 v11 v12 v13 h9
def F_message_small (at_1 : Option FV) (max2 : Int) (h : Heap) (Q : Option FV → Option FV → Option FV → Option FV → Heap → Prop) : Prop := F_message_small_of  at_1 max2 h Q
def plan75 : Plan := .s (.r [2, 3, 4]) (.s (.r [4]) .z)
theorem F_message_small.eq  (at_1 : Option FV) (max2 : Int) (h : Heap) (K : YV) : F_message_small_of  at_1 max2 h (fun (r0 r1 r2 r3 : Option FV) (h : Heap) => K (.agg #[Kd.enc .fn r0, Kd.enc .fn r1, Kd.enc .fn r2, Kd.enc .fn r3]) h) =
    den Tryz.prog noFns Tryz.f75.ntmps plan75 (bodyOf Tryz.f75) (args0 0 [(Kd.enc .fn at_1 : Value), (.int .i64 max2 : Value)]) h (konF Tryz.f75 K) := by kernel_rfl
def E_message_small_of (f : Y24) : List Value → Heap → YV → Prop
  | [v0, v1], h, K => dec1 .fn v0 fun (at_1 : Option FV) =>
  dec1 (.int .i64) v1 fun (max2 : Int) =>
  f at_1 max2 h (fun (r0 r1 r2 r3 : Option FV) (h : Heap) => K (.agg #[Kd.enc .fn r0, Kd.enc .fn r1, Kd.enc .fn r2, Kd.enc .fn r3]) h)
  | _, _, _ => False
abbrev E_message_small := E_message_small_of F_message_small
theorem E_message_small.right : IsRight Tryz.prog 75 E_message_small := by
  refine isRight fun vs K w hh => ?_
  match vs, hh with
  | [v0, v1], hh =>
    unfold E_message_small E_message_small_of at hh
    replace hh := dec1_sound hh; obtain ⟨at_1, rfl, hh⟩ := hh
    replace hh := dec1_sound hh; obtain ⟨max2, rfl, hh⟩ := hh
    unfold F_message_small at hh
    exact calls_den noFns_right plan75 _ w K Tryz.func75 (by kernel_rfl) (by kernel_rfl) (Eq.mp (F_message_small.eq  at_1 max2 w.heap K) hh)
theorem ok75 : okFn Tryz.prog 75 = true := by kernel_rfl
def F_message_table_14_of  (m1 : Option Addr) (h : Heap) (Q : Option Addr → Heap → Prop) : Prop :=
  nn m1 fun (a2 : Addr) =>
  Q (some (a2.add 11)) h
def F_message_table_14 (m1 : Option Addr) (h : Heap) (Q : Option Addr → Heap → Prop) : Prop := F_message_table_14_of  m1 h Q
def plan76 : Plan := .s (.r [0]) (.s (.r [2]) .z)
theorem F_message_table_14.eq  (m1 : Option Addr) (h : Heap) (K : YV) : F_message_table_14_of  m1 h (fun (r0 : Option Addr) (h : Heap) => K (.pointer r0) h) =
    den Tryz.prog noFns Tryz.f76.ntmps plan76 (bodyOf Tryz.f76) (args0 0 [(.pointer m1 : Value)]) h (konF Tryz.f76 K) := by kernel_rfl
def E_message_table_14_of (f : Y1) : List Value → Heap → YV → Prop
  | [v0], h, K => dec1 .ptr v0 fun (m1 : Option Addr) =>
  f m1 h (fun (r0 : Option Addr) (h : Heap) => K (.pointer r0) h)
  | _, _, _ => False
abbrev E_message_table_14 := E_message_table_14_of F_message_table_14
theorem E_message_table_14.at (f : Y1) (m1 : Option Addr) (h : Heap) (K : YV) : E_message_table_14_of f [.pointer m1] h K = f m1 h (fun (r0 : Option Addr) (h : Heap) => K (.pointer r0) h) := rfl
theorem E_message_table_14.right : IsRight Tryz.prog 76 E_message_table_14 := by
  refine isRight fun vs K w hh => ?_
  match vs, hh with
  | [v0], hh =>
    unfold E_message_table_14 E_message_table_14_of at hh
    replace hh := dec1_sound hh; obtain ⟨m1, rfl, hh⟩ := hh
    unfold F_message_table_14 at hh
    exact calls_den noFns_right plan76 _ w K Tryz.func76 (by kernel_rfl) (by kernel_rfl) (Eq.mp (F_message_table_14.eq  m1 w.heap K) hh)
theorem ok76 : okFn Tryz.prog 76 = true := by kernel_rfl
def F_message_table_15_of  (m1 : Option Addr) (h : Heap) (Q : Option Addr → Heap → Prop) : Prop :=
  nn m1 fun (a2 : Addr) =>
  Q (some (a2.add 12)) h
def F_message_table_15 (m1 : Option Addr) (h : Heap) (Q : Option Addr → Heap → Prop) : Prop := F_message_table_15_of  m1 h Q
def plan77 : Plan := .s (.r [0]) (.s (.r [2]) .z)
theorem F_message_table_15.eq  (m1 : Option Addr) (h : Heap) (K : YV) : F_message_table_15_of  m1 h (fun (r0 : Option Addr) (h : Heap) => K (.pointer r0) h) =
    den Tryz.prog noFns Tryz.f77.ntmps plan77 (bodyOf Tryz.f77) (args0 0 [(.pointer m1 : Value)]) h (konF Tryz.f77 K) := by kernel_rfl
def E_message_table_15_of (f : Y1) : List Value → Heap → YV → Prop
  | [v0], h, K => dec1 .ptr v0 fun (m1 : Option Addr) =>
  f m1 h (fun (r0 : Option Addr) (h : Heap) => K (.pointer r0) h)
  | _, _, _ => False
abbrev E_message_table_15 := E_message_table_15_of F_message_table_15
theorem E_message_table_15.at (f : Y1) (m1 : Option Addr) (h : Heap) (K : YV) : E_message_table_15_of f [.pointer m1] h K = f m1 h (fun (r0 : Option Addr) (h : Heap) => K (.pointer r0) h) := rfl
theorem E_message_table_15.right : IsRight Tryz.prog 77 E_message_table_15 := by
  refine isRight fun vs K w hh => ?_
  match vs, hh with
  | [v0], hh =>
    unfold E_message_table_15 E_message_table_15_of at hh
    replace hh := dec1_sound hh; obtain ⟨m1, rfl, hh⟩ := hh
    unfold F_message_table_15 at hh
    exact calls_den noFns_right plan77 _ w K Tryz.func77 (by kernel_rfl) (by kernel_rfl) (Eq.mp (F_message_table_15.eq  m1 w.heap K) hh)
theorem ok77 : okFn Tryz.prog 77 = true := by kernel_rfl
def F_message_name_of  (at_1 : Option FV) (h : Heap) (Q : Option FV → Option FV → Option FV → Option FV → Heap → Prop) : Prop :=
  boxF 129 at_1 h fun (a2 : Addr) (h3 : Heap) =>
  al 89 [.nilFunc, .nilFunc, .nilFunc, .nilFunc] h3 fun (a4 : Addr) (h5 : Heap) =>
  st a4 [.func (.func 138) #[] #[.pointer (some a2)], .func (.func 139) #[] #[.pointer (some a2)], .func (.func 140) #[] #[.pointer (some a2)], .func (.func 141) #[] #[.pointer (some a2)]] h5 fun (h6 : Heap) =>
  ld [.fn, .fn, .fn, .fn] a4 h6 fun (v7 v8 v9 v10 : Option FV) =>
  Q v7 v8 v9 v10 h6
def F_message_name (at_1 : Option FV) (h : Heap) (Q : Option FV → Option FV → Option FV → Option FV → Heap → Prop) : Prop := F_message_name_of  at_1 h Q
def plan78 : Plan := .s (.r [1, 2]) (.s (.r [2]) .z)
theorem F_message_name.eq  (at_1 : Option FV) (h : Heap) (K : YV) : F_message_name_of  at_1 h (fun (r0 r1 r2 r3 : Option FV) (h : Heap) => K (.agg #[Kd.enc .fn r0, Kd.enc .fn r1, Kd.enc .fn r2, Kd.enc .fn r3]) h) =
    den Tryz.prog noFns Tryz.f78.ntmps plan78 (bodyOf Tryz.f78) (args0 0 [(Kd.enc .fn at_1 : Value)]) h (konF Tryz.f78 K) := by kernel_rfl
def E_message_name_of (f : Y30) : List Value → Heap → YV → Prop
  | [v0], h, K => dec1 .fn v0 fun (at_1 : Option FV) =>
  f at_1 h (fun (r0 r1 r2 r3 : Option FV) (h : Heap) => K (.agg #[Kd.enc .fn r0, Kd.enc .fn r1, Kd.enc .fn r2, Kd.enc .fn r3]) h)
  | _, _, _ => False
abbrev E_message_name := E_message_name_of F_message_name
theorem E_message_name.right : IsRight Tryz.prog 78 E_message_name := by
  refine isRight fun vs K w hh => ?_
  match vs, hh with
  | [v0], hh =>
    unfold E_message_name E_message_name_of at hh
    replace hh := dec1_sound hh; obtain ⟨at_1, rfl, hh⟩ := hh
    unfold F_message_name at hh
    exact calls_den noFns_right plan78 _ w K Tryz.func78 (by kernel_rfl) (by kernel_rfl) (Eq.mp (F_message_name.eq  at_1 w.heap K) hh)
theorem ok78 : okFn Tryz.prog 78 = true := by kernel_rfl
def F_message_table_16_of  (m1 : Option Addr) (h : Heap) (Q : Option Addr → Heap → Prop) : Prop :=
  nn m1 fun (a2 : Addr) =>
  Q (some (a2.add 13)) h
def F_message_table_16 (m1 : Option Addr) (h : Heap) (Q : Option Addr → Heap → Prop) : Prop := F_message_table_16_of  m1 h Q
def plan79 : Plan := .s (.r [0]) (.s (.r [2]) .z)
theorem F_message_table_16.eq  (m1 : Option Addr) (h : Heap) (K : YV) : F_message_table_16_of  m1 h (fun (r0 : Option Addr) (h : Heap) => K (.pointer r0) h) =
    den Tryz.prog noFns Tryz.f79.ntmps plan79 (bodyOf Tryz.f79) (args0 0 [(.pointer m1 : Value)]) h (konF Tryz.f79 K) := by kernel_rfl
def E_message_table_16_of (f : Y1) : List Value → Heap → YV → Prop
  | [v0], h, K => dec1 .ptr v0 fun (m1 : Option Addr) =>
  f m1 h (fun (r0 : Option Addr) (h : Heap) => K (.pointer r0) h)
  | _, _, _ => False
abbrev E_message_table_16 := E_message_table_16_of F_message_table_16
theorem E_message_table_16.at (f : Y1) (m1 : Option Addr) (h : Heap) (K : YV) : E_message_table_16_of f [.pointer m1] h K = f m1 h (fun (r0 : Option Addr) (h : Heap) => K (.pointer r0) h) := rfl
theorem E_message_table_16.right : IsRight Tryz.prog 79 E_message_table_16 := by
  refine isRight fun vs K w hh => ?_
  match vs, hh with
  | [v0], hh =>
    unfold E_message_table_16 E_message_table_16_of at hh
    replace hh := dec1_sound hh; obtain ⟨m1, rfl, hh⟩ := hh
    unfold F_message_table_16 at hh
    exact calls_den noFns_right plan79 _ w K Tryz.func79 (by kernel_rfl) (by kernel_rfl) (Eq.mp (F_message_table_16.eq  m1 w.heap K) hh)
theorem ok79 : okFn Tryz.prog 79 = true := by kernel_rfl
def F_message_table_17_of  (m1 : Option Addr) (h : Heap) (Q : Option Addr → Heap → Prop) : Prop :=
  nn m1 fun (a2 : Addr) =>
  Q (some (a2.add 14)) h
def F_message_table_17 (m1 : Option Addr) (h : Heap) (Q : Option Addr → Heap → Prop) : Prop := F_message_table_17_of  m1 h Q
def plan80 : Plan := .s (.r [0]) (.s (.r [2]) .z)
theorem F_message_table_17.eq  (m1 : Option Addr) (h : Heap) (K : YV) : F_message_table_17_of  m1 h (fun (r0 : Option Addr) (h : Heap) => K (.pointer r0) h) =
    den Tryz.prog noFns Tryz.f80.ntmps plan80 (bodyOf Tryz.f80) (args0 0 [(.pointer m1 : Value)]) h (konF Tryz.f80 K) := by kernel_rfl
def E_message_table_17_of (f : Y1) : List Value → Heap → YV → Prop
  | [v0], h, K => dec1 .ptr v0 fun (m1 : Option Addr) =>
  f m1 h (fun (r0 : Option Addr) (h : Heap) => K (.pointer r0) h)
  | _, _, _ => False
abbrev E_message_table_17 := E_message_table_17_of F_message_table_17
theorem E_message_table_17.at (f : Y1) (m1 : Option Addr) (h : Heap) (K : YV) : E_message_table_17_of f [.pointer m1] h K = f m1 h (fun (r0 : Option Addr) (h : Heap) => K (.pointer r0) h) := rfl
theorem E_message_table_17.right : IsRight Tryz.prog 80 E_message_table_17 := by
  refine isRight fun vs K w hh => ?_
  match vs, hh with
  | [v0], hh =>
    unfold E_message_table_17 E_message_table_17_of at hh
    replace hh := dec1_sound hh; obtain ⟨m1, rfl, hh⟩ := hh
    unfold F_message_table_17 at hh
    exact calls_den noFns_right plan80 _ w K Tryz.func80 (by kernel_rfl) (by kernel_rfl) (Eq.mp (F_message_table_17.eq  m1 w.heap K) hh)
theorem ok80 : okFn Tryz.prog 80 = true := by kernel_rfl
def F_message_table_18_of  (m1 : Option Addr) (h : Heap) (Q : Option Addr → Heap → Prop) : Prop :=
  nn m1 fun (a2 : Addr) =>
  Q (some (a2.add 15)) h
def F_message_table_18 (m1 : Option Addr) (h : Heap) (Q : Option Addr → Heap → Prop) : Prop := F_message_table_18_of  m1 h Q
def plan81 : Plan := .s (.r [0]) (.s (.r [2]) .z)
theorem F_message_table_18.eq  (m1 : Option Addr) (h : Heap) (K : YV) : F_message_table_18_of  m1 h (fun (r0 : Option Addr) (h : Heap) => K (.pointer r0) h) =
    den Tryz.prog noFns Tryz.f81.ntmps plan81 (bodyOf Tryz.f81) (args0 0 [(.pointer m1 : Value)]) h (konF Tryz.f81 K) := by kernel_rfl
def E_message_table_18_of (f : Y1) : List Value → Heap → YV → Prop
  | [v0], h, K => dec1 .ptr v0 fun (m1 : Option Addr) =>
  f m1 h (fun (r0 : Option Addr) (h : Heap) => K (.pointer r0) h)
  | _, _, _ => False
abbrev E_message_table_18 := E_message_table_18_of F_message_table_18
theorem E_message_table_18.at (f : Y1) (m1 : Option Addr) (h : Heap) (K : YV) : E_message_table_18_of f [.pointer m1] h K = f m1 h (fun (r0 : Option Addr) (h : Heap) => K (.pointer r0) h) := rfl
theorem E_message_table_18.right : IsRight Tryz.prog 81 E_message_table_18 := by
  refine isRight fun vs K w hh => ?_
  match vs, hh with
  | [v0], hh =>
    unfold E_message_table_18 E_message_table_18_of at hh
    replace hh := dec1_sound hh; obtain ⟨m1, rfl, hh⟩ := hh
    unfold F_message_table_18 at hh
    exact calls_den noFns_right plan81 _ w K Tryz.func81 (by kernel_rfl) (by kernel_rfl) (Eq.mp (F_message_table_18.eq  m1 w.heap K) hh)
theorem ok81 : okFn Tryz.prog 81 = true := by kernel_rfl
def F_message_table_19_of  (m1 : Option Addr) (h : Heap) (Q : Option Addr → Heap → Prop) : Prop :=
  nn m1 fun (a2 : Addr) =>
  Q (some ((a2.add 16).add 0)) h
def F_message_table_19 (m1 : Option Addr) (h : Heap) (Q : Option Addr → Heap → Prop) : Prop := F_message_table_19_of  m1 h Q
def plan82 : Plan := .s (.r [0]) (.s (.r [2]) .z)
theorem F_message_table_19.eq  (m1 : Option Addr) (h : Heap) (K : YV) : F_message_table_19_of  m1 h (fun (r0 : Option Addr) (h : Heap) => K (.pointer r0) h) =
    den Tryz.prog noFns Tryz.f82.ntmps plan82 (bodyOf Tryz.f82) (args0 0 [(.pointer m1 : Value)]) h (konF Tryz.f82 K) := by kernel_rfl
def E_message_table_19_of (f : Y1) : List Value → Heap → YV → Prop
  | [v0], h, K => dec1 .ptr v0 fun (m1 : Option Addr) =>
  f m1 h (fun (r0 : Option Addr) (h : Heap) => K (.pointer r0) h)
  | _, _, _ => False
abbrev E_message_table_19 := E_message_table_19_of F_message_table_19
theorem E_message_table_19.at (f : Y1) (m1 : Option Addr) (h : Heap) (K : YV) : E_message_table_19_of f [.pointer m1] h K = f m1 h (fun (r0 : Option Addr) (h : Heap) => K (.pointer r0) h) := rfl
theorem E_message_table_19.right : IsRight Tryz.prog 82 E_message_table_19 := by
  refine isRight fun vs K w hh => ?_
  match vs, hh with
  | [v0], hh =>
    unfold E_message_table_19 E_message_table_19_of at hh
    replace hh := dec1_sound hh; obtain ⟨m1, rfl, hh⟩ := hh
    unfold F_message_table_19 at hh
    exact calls_den noFns_right plan82 _ w K Tryz.func82 (by kernel_rfl) (by kernel_rfl) (Eq.mp (F_message_table_19.eq  m1 w.heap K) hh)
theorem ok82 : okFn Tryz.prog 82 = true := by kernel_rfl
def F_message_table_20_of  (m1 : Option Addr) (h : Heap) (Q : Option Addr → Heap → Prop) : Prop :=
  nn m1 fun (a2 : Addr) =>
  Q (some ((a2.add 16).add 1)) h
def F_message_table_20 (m1 : Option Addr) (h : Heap) (Q : Option Addr → Heap → Prop) : Prop := F_message_table_20_of  m1 h Q
def plan83 : Plan := .s (.r [0]) (.s (.r [2]) .z)
theorem F_message_table_20.eq  (m1 : Option Addr) (h : Heap) (K : YV) : F_message_table_20_of  m1 h (fun (r0 : Option Addr) (h : Heap) => K (.pointer r0) h) =
    den Tryz.prog noFns Tryz.f83.ntmps plan83 (bodyOf Tryz.f83) (args0 0 [(.pointer m1 : Value)]) h (konF Tryz.f83 K) := by kernel_rfl
def E_message_table_20_of (f : Y1) : List Value → Heap → YV → Prop
  | [v0], h, K => dec1 .ptr v0 fun (m1 : Option Addr) =>
  f m1 h (fun (r0 : Option Addr) (h : Heap) => K (.pointer r0) h)
  | _, _, _ => False
abbrev E_message_table_20 := E_message_table_20_of F_message_table_20
theorem E_message_table_20.at (f : Y1) (m1 : Option Addr) (h : Heap) (K : YV) : E_message_table_20_of f [.pointer m1] h K = f m1 h (fun (r0 : Option Addr) (h : Heap) => K (.pointer r0) h) := rfl
theorem E_message_table_20.right : IsRight Tryz.prog 83 E_message_table_20 := by
  refine isRight fun vs K w hh => ?_
  match vs, hh with
  | [v0], hh =>
    unfold E_message_table_20 E_message_table_20_of at hh
    replace hh := dec1_sound hh; obtain ⟨m1, rfl, hh⟩ := hh
    unfold F_message_table_20 at hh
    exact calls_den noFns_right plan83 _ w K Tryz.func83 (by kernel_rfl) (by kernel_rfl) (Eq.mp (F_message_table_20.eq  m1 w.heap K) hh)
theorem ok83 : okFn Tryz.prog 83 = true := by kernel_rfl
def F_message_table_21_of  (m1 : Option Addr) (h : Heap) (Q : Option Addr → Heap → Prop) : Prop :=
  nn m1 fun (a2 : Addr) =>
  Q (some (a2.add 18)) h
def F_message_table_21 (m1 : Option Addr) (h : Heap) (Q : Option Addr → Heap → Prop) : Prop := F_message_table_21_of  m1 h Q
def plan84 : Plan := .s (.r [0]) (.s (.r [2]) .z)
theorem F_message_table_21.eq  (m1 : Option Addr) (h : Heap) (K : YV) : F_message_table_21_of  m1 h (fun (r0 : Option Addr) (h : Heap) => K (.pointer r0) h) =
    den Tryz.prog noFns Tryz.f84.ntmps plan84 (bodyOf Tryz.f84) (args0 0 [(.pointer m1 : Value)]) h (konF Tryz.f84 K) := by kernel_rfl
def E_message_table_21_of (f : Y1) : List Value → Heap → YV → Prop
  | [v0], h, K => dec1 .ptr v0 fun (m1 : Option Addr) =>
  f m1 h (fun (r0 : Option Addr) (h : Heap) => K (.pointer r0) h)
  | _, _, _ => False
abbrev E_message_table_21 := E_message_table_21_of F_message_table_21
theorem E_message_table_21.at (f : Y1) (m1 : Option Addr) (h : Heap) (K : YV) : E_message_table_21_of f [.pointer m1] h K = f m1 h (fun (r0 : Option Addr) (h : Heap) => K (.pointer r0) h) := rfl
theorem E_message_table_21.right : IsRight Tryz.prog 84 E_message_table_21 := by
  refine isRight fun vs K w hh => ?_
  match vs, hh with
  | [v0], hh =>
    unfold E_message_table_21 E_message_table_21_of at hh
    replace hh := dec1_sound hh; obtain ⟨m1, rfl, hh⟩ := hh
    unfold F_message_table_21 at hh
    exact calls_den noFns_right plan84 _ w K Tryz.func84 (by kernel_rfl) (by kernel_rfl) (Eq.mp (F_message_table_21.eq  m1 w.heap K) hh)
theorem ok84 : okFn Tryz.prog 84 = true := by kernel_rfl
def F_message_table_22_of  (m1 : Option Addr) (h : Heap) (Q : Option Addr → Heap → Prop) : Prop :=
  nn m1 fun (a2 : Addr) =>
  Q (some (a2.add 19)) h
def F_message_table_22 (m1 : Option Addr) (h : Heap) (Q : Option Addr → Heap → Prop) : Prop := F_message_table_22_of  m1 h Q
def plan85 : Plan := .s (.r [0]) (.s (.r [2]) .z)
theorem F_message_table_22.eq  (m1 : Option Addr) (h : Heap) (K : YV) : F_message_table_22_of  m1 h (fun (r0 : Option Addr) (h : Heap) => K (.pointer r0) h) =
    den Tryz.prog noFns Tryz.f85.ntmps plan85 (bodyOf Tryz.f85) (args0 0 [(.pointer m1 : Value)]) h (konF Tryz.f85 K) := by kernel_rfl
def E_message_table_22_of (f : Y1) : List Value → Heap → YV → Prop
  | [v0], h, K => dec1 .ptr v0 fun (m1 : Option Addr) =>
  f m1 h (fun (r0 : Option Addr) (h : Heap) => K (.pointer r0) h)
  | _, _, _ => False
abbrev E_message_table_22 := E_message_table_22_of F_message_table_22
theorem E_message_table_22.at (f : Y1) (m1 : Option Addr) (h : Heap) (K : YV) : E_message_table_22_of f [.pointer m1] h K = f m1 h (fun (r0 : Option Addr) (h : Heap) => K (.pointer r0) h) := rfl
theorem E_message_table_22.right : IsRight Tryz.prog 85 E_message_table_22 := by
  refine isRight fun vs K w hh => ?_
  match vs, hh with
  | [v0], hh =>
    unfold E_message_table_22 E_message_table_22_of at hh
    replace hh := dec1_sound hh; obtain ⟨m1, rfl, hh⟩ := hh
    unfold F_message_table_22 at hh
    exact calls_den noFns_right plan85 _ w K Tryz.func85 (by kernel_rfl) (by kernel_rfl) (Eq.mp (F_message_table_22.eq  m1 w.heap K) hh)
theorem ok85 : okFn Tryz.prog 85 = true := by kernel_rfl
def F_message_table_23_of  (m1 : Option Addr) (h : Heap) (Q : Option Addr → Heap → Prop) : Prop :=
  nn m1 fun (a2 : Addr) =>
  Q (some (a2.add 20)) h
def F_message_table_23 (m1 : Option Addr) (h : Heap) (Q : Option Addr → Heap → Prop) : Prop := F_message_table_23_of  m1 h Q
def plan86 : Plan := .s (.r [0]) (.s (.r [2]) .z)
theorem F_message_table_23.eq  (m1 : Option Addr) (h : Heap) (K : YV) : F_message_table_23_of  m1 h (fun (r0 : Option Addr) (h : Heap) => K (.pointer r0) h) =
    den Tryz.prog noFns Tryz.f86.ntmps plan86 (bodyOf Tryz.f86) (args0 0 [(.pointer m1 : Value)]) h (konF Tryz.f86 K) := by kernel_rfl
def E_message_table_23_of (f : Y1) : List Value → Heap → YV → Prop
  | [v0], h, K => dec1 .ptr v0 fun (m1 : Option Addr) =>
  f m1 h (fun (r0 : Option Addr) (h : Heap) => K (.pointer r0) h)
  | _, _, _ => False
abbrev E_message_table_23 := E_message_table_23_of F_message_table_23
theorem E_message_table_23.at (f : Y1) (m1 : Option Addr) (h : Heap) (K : YV) : E_message_table_23_of f [.pointer m1] h K = f m1 h (fun (r0 : Option Addr) (h : Heap) => K (.pointer r0) h) := rfl
theorem E_message_table_23.right : IsRight Tryz.prog 86 E_message_table_23 := by
  refine isRight fun vs K w hh => ?_
  match vs, hh with
  | [v0], hh =>
    unfold E_message_table_23 E_message_table_23_of at hh
    replace hh := dec1_sound hh; obtain ⟨m1, rfl, hh⟩ := hh
    unfold F_message_table_23 at hh
    exact calls_den noFns_right plan86 _ w K Tryz.func86 (by kernel_rfl) (by kernel_rfl) (Eq.mp (F_message_table_23.eq  m1 w.heap K) hh)
theorem ok86 : okFn Tryz.prog 86 = true := by kernel_rfl
def F_message_table_24_of  (m1 : Option Addr) (h : Heap) (Q : Bool → Heap → Prop) : Prop :=
  jn [(2, .one .bool)] (fun (x9 : Bool) (h10 : Heap) =>
  Q x9 h10) (fun (j2 : Bool → Heap → Prop) =>
  nn m1 fun (a3 : Addr) =>
  ld [.int .i64] (a3.add 21) h fun (v4 : Int) =>
  brr (v4 == 0)
  (j2 true h)
  (nn m1 fun (a5 : Addr) =>
  ld [.int .i64] (a5.add 21) h fun (v6 : Int) =>
  brr (decide (v6 ≥ 300))
  (nn m1 fun (a7 : Addr) =>
  ld [.int .i64] (a7.add 21) h fun (v8 : Int) =>
  j2 (decide (v8 ≤ 307)) h)
  (j2 false h)))
def F_message_table_24 (m1 : Option Addr) (h : Heap) (Q : Bool → Heap → Prop) : Prop := F_message_table_24_of  m1 h Q
def plan87 : Plan := .s (.r [0]) (.s (.rj [(2, .one .bool)] []) .z)
theorem F_message_table_24.eq  (m1 : Option Addr) (h : Heap) (K : YV) : F_message_table_24_of  m1 h (fun (r0 : Bool) (h : Heap) => K (.bool r0) h) =
    den Tryz.prog noFns Tryz.f87.ntmps plan87 (bodyOf Tryz.f87) (args0 0 [(.pointer m1 : Value)]) h (konF Tryz.f87 K) := by kernel_rfl
def E_message_table_24_of (f : Y3) : List Value → Heap → YV → Prop
  | [v0], h, K => dec1 .ptr v0 fun (m1 : Option Addr) =>
  f m1 h (fun (r0 : Bool) (h : Heap) => K (.bool r0) h)
  | _, _, _ => False
abbrev E_message_table_24 := E_message_table_24_of F_message_table_24
theorem E_message_table_24.at (f : Y3) (m1 : Option Addr) (h : Heap) (K : YV) : E_message_table_24_of f [.pointer m1] h K = f m1 h (fun (r0 : Bool) (h : Heap) => K (.bool r0) h) := rfl
theorem E_message_table_24.right : IsRight Tryz.prog 87 E_message_table_24 := by
  refine isRight fun vs K w hh => ?_
  match vs, hh with
  | [v0], hh =>
    unfold E_message_table_24 E_message_table_24_of at hh
    replace hh := dec1_sound hh; obtain ⟨m1, rfl, hh⟩ := hh
    unfold F_message_table_24 at hh
    exact calls_den noFns_right plan87 _ w K Tryz.func87 (by kernel_rfl) (by kernel_rfl) (Eq.mp (F_message_table_24.eq  m1 w.heap K) hh)
theorem ok87 : okFn Tryz.prog 87 = true := by kernel_rfl
def F_message_table_25_of  (m1 : Option Addr) (h : Heap) (Q : Bool → Heap → Prop) : Prop :=
  nn m1 fun (a2 : Addr) =>
  ld [.int .i64] (a2.add 21) h fun (v3 : Int) =>
  Q (v3 == 0) h
def F_message_table_25 (m1 : Option Addr) (h : Heap) (Q : Bool → Heap → Prop) : Prop := F_message_table_25_of  m1 h Q
def plan88 : Plan := .s (.r [0]) (.s (.r [2]) .z)
theorem F_message_table_25.eq  (m1 : Option Addr) (h : Heap) (K : YV) : F_message_table_25_of  m1 h (fun (r0 : Bool) (h : Heap) => K (.bool r0) h) =
    den Tryz.prog noFns Tryz.f88.ntmps plan88 (bodyOf Tryz.f88) (args0 0 [(.pointer m1 : Value)]) h (konF Tryz.f88 K) := by kernel_rfl
def E_message_table_25_of (f : Y3) : List Value → Heap → YV → Prop
  | [v0], h, K => dec1 .ptr v0 fun (m1 : Option Addr) =>
  f m1 h (fun (r0 : Bool) (h : Heap) => K (.bool r0) h)
  | _, _, _ => False
abbrev E_message_table_25 := E_message_table_25_of F_message_table_25
theorem E_message_table_25.at (f : Y3) (m1 : Option Addr) (h : Heap) (K : YV) : E_message_table_25_of f [.pointer m1] h K = f m1 h (fun (r0 : Bool) (h : Heap) => K (.bool r0) h) := rfl
theorem E_message_table_25.right : IsRight Tryz.prog 88 E_message_table_25 := by
  refine isRight fun vs K w hh => ?_
  match vs, hh with
  | [v0], hh =>
    unfold E_message_table_25 E_message_table_25_of at hh
    replace hh := dec1_sound hh; obtain ⟨m1, rfl, hh⟩ := hh
    unfold F_message_table_25 at hh
    exact calls_den noFns_right plan88 _ w K Tryz.func88 (by kernel_rfl) (by kernel_rfl) (Eq.mp (F_message_table_25.eq  m1 w.heap K) hh)
theorem ok88 : okFn Tryz.prog 88 = true := by kernel_rfl
def F_message_table_26_of (f64_ : Y8) (w1 m2 : Option Addr) (h : Heap) (Q : Heap → Prop) : Prop :=
  nn m2 fun (a3 : Addr) =>
  ld [.int .i64] (a3.add 21) h fun (v4 : Int) =>
  f64_ w1 (IntKind.u64.wrap v4) h fun  (h5 : Heap) =>
  Q h5
def F_message_table_26 (w1 m2 : Option Addr) (h : Heap) (Q : Heap → Prop) : Prop := F_message_table_26_of F_code_Writer_Var w1 m2 h Q
def plan89 : Plan := .r []
theorem F_message_table_26.eq (f64_ : Y8) (w1 m2 : Option Addr) (h : Heap) (K : YV) : F_message_table_26_of f64_ w1 m2 h (fun  (h : Heap) => K (.tuple #[]) h) =
    den Tryz.prog (fn1 64 (E_code_Writer_Var_of f64_) noFns) Tryz.f89.ntmps plan89 (bodyOf Tryz.f89) (args0 0 [(.pointer w1 : Value), (.pointer m2 : Value)]) h (konF Tryz.f89 K) := by kernel_rfl
def E_message_table_26_of (f : Y4) : List Value → Heap → YV → Prop
  | [v0, v1], h, K => dec1 .ptr v0 fun (w1 : Option Addr) =>
  dec1 .ptr v1 fun (m2 : Option Addr) =>
  f w1 m2 h (fun  (h : Heap) => K (.tuple #[]) h)
  | _, _, _ => False
abbrev E_message_table_26 := E_message_table_26_of F_message_table_26
theorem E_message_table_26.at (f : Y4) (w1 m2 : Option Addr) (h : Heap) (K : YV) : E_message_table_26_of f [.pointer w1, .pointer m2] h K = f w1 m2 h (fun  (h : Heap) => K (.tuple #[]) h) := rfl
theorem E_message_table_26.right : IsRight Tryz.prog 89 E_message_table_26 := by
  refine isRight fun vs K w hh => ?_
  match vs, hh with
  | [v0, v1], hh =>
    unfold E_message_table_26 E_message_table_26_of at hh
    replace hh := dec1_sound hh; obtain ⟨w1, rfl, hh⟩ := hh
    replace hh := dec1_sound hh; obtain ⟨m2, rfl, hh⟩ := hh
    unfold F_message_table_26 at hh
    exact calls_den (fn1_right ok64 E_code_Writer_Var.right noFns_right) plan89 _ w K Tryz.func89 (by kernel_rfl) (by kernel_rfl) (Eq.mp (F_message_table_26.eq F_code_Writer_Var w1 m2 w.heap K) hh)
theorem ok89 : okFn Tryz.prog 89 = true := by kernel_rfl
def F_message_table_27_of (f66_ : Y10) (r1 m2 : Option Addr) (h : Heap) (Q : Heap → Prop) : Prop :=
  f66_ r1 307 h fun (r3 : Int) (h4 : Heap) =>
  nn m2 fun (a5 : Addr) =>
  st (a5.add 21) [.int .i64 (IntKind.i64.wrap r3)] h4 fun (h6 : Heap) =>
  Q h6
def F_message_table_27 (r1 m2 : Option Addr) (h : Heap) (Q : Heap → Prop) : Prop := F_message_table_27_of F_code_Reader_Var r1 m2 h Q
def plan90 : Plan := .r []
theorem F_message_table_27.eq (f66_ : Y10) (r1 m2 : Option Addr) (h : Heap) (K : YV) : F_message_table_27_of f66_ r1 m2 h (fun  (h : Heap) => K (.tuple #[]) h) =
    den Tryz.prog (fn1 66 (E_code_Reader_Var_of f66_) noFns) Tryz.f90.ntmps plan90 (bodyOf Tryz.f90) (args0 0 [(.pointer r1 : Value), (.pointer m2 : Value)]) h (konF Tryz.f90 K) := by kernel_rfl
def E_message_table_27_of (f : Y4) : List Value → Heap → YV → Prop
  | [v0, v1], h, K => dec1 .ptr v0 fun (r1 : Option Addr) =>
  dec1 .ptr v1 fun (m2 : Option Addr) =>
  f r1 m2 h (fun  (h : Heap) => K (.tuple #[]) h)
  | _, _, _ => False
abbrev E_message_table_27 := E_message_table_27_of F_message_table_27
theorem E_message_table_27.at (f : Y4) (r1 m2 : Option Addr) (h : Heap) (K : YV) : E_message_table_27_of f [.pointer r1, .pointer m2] h K = f r1 m2 h (fun  (h : Heap) => K (.tuple #[]) h) := rfl
theorem E_message_table_27.right : IsRight Tryz.prog 90 E_message_table_27 := by
  refine isRight fun vs K w hh => ?_
  match vs, hh with
  | [v0, v1], hh =>
    unfold E_message_table_27 E_message_table_27_of at hh
    replace hh := dec1_sound hh; obtain ⟨r1, rfl, hh⟩ := hh
    replace hh := dec1_sound hh; obtain ⟨m2, rfl, hh⟩ := hh
    unfold F_message_table_27 at hh
    exact calls_den (fn1_right ok66 E_code_Reader_Var.right noFns_right) plan90 _ w K Tryz.func90 (by kernel_rfl) (by kernel_rfl) (Eq.mp (F_message_table_27.eq F_code_Reader_Var r1 m2 w.heap K) hh)
theorem ok90 : okFn Tryz.prog 90 = true := by kernel_rfl
def F_message_table_of (f55_ : Y24) (f57_ : Y29) (f75_ : Y24) (f78_ : Y30) (h : Heap) (Q : YO) : Prop :=
  al 90 (.nilFunc :: .nilFunc :: .nilFunc :: .nilFunc :: .nilFunc :: .nilFunc :: .nilFunc :: .nilFunc :: .nilFunc :: .nilFunc :: .nilFunc :: .nilFunc :: .nilFunc :: .nilFunc :: .nilFunc :: .nilFunc :: .nilFunc :: .nilFunc :: .nilFunc :: .nilFunc :: .nilFunc :: .nilFunc :: .nilFunc :: .nilFunc :: .nilFunc :: .nilFunc :: .nilFunc :: .nilFunc :: .nilFunc :: .nilFunc :: .nilFunc :: .nilFunc :: .nilFunc :: .nilFunc :: .nilFunc :: .nilFunc :: .nilFunc :: .nilFunc :: .nilFunc :: .nilFunc :: .nilFunc :: .nilFunc :: .nilFunc :: .nilFunc :: .nilFunc :: .nilFunc :: .nilFunc :: .nilFunc :: .nilFunc :: .nilFunc :: .nilFunc :: .nilFunc :: .nilFunc :: .nilFunc :: .nilFunc :: .nilFunc :: .nilFunc :: .nilFunc :: .nilFunc :: .nilFunc :: .nilFunc :: .nilFunc :: .nilFunc :: .nilFunc :: []) h fun (a1 : Addr) (h2 : Heap) =>
  f55_ (some (⟨.func 56, [], []⟩ : FV)) 1099511627776 h2 fun (r3 r4 r5 r6 : Option FV) (h7 : Heap) =>
  f55_ (some (⟨.func 58, [], []⟩ : FV)) 1099511627776 h7 fun (r8 r9 r10 r11 : Option FV) (h12 : Heap) =>
  f55_ (some (⟨.func 59, [], []⟩ : FV)) 1099511627776 h12 fun (r13 r14 r15 r16 : Option FV) (h17 : Heap) =>
  dec1 .fn (Kd.enc .fn r8) fun (d23 : Option FV) =>
  dec1 .fn (Kd.enc .fn r9) fun (d24 : Option FV) =>
  dec1 .fn (Kd.enc .fn r10) fun (d25 : Option FV) =>
  dec1 .fn (Kd.enc .fn r11) fun (d26 : Option FV) =>
  dec1 .fn (Kd.enc .fn r13) fun (d27 : Option FV) =>
  dec1 .fn (Kd.enc .fn r14) fun (d28 : Option FV) =>
  dec1 .fn (Kd.enc .fn r15) fun (d29 : Option FV) =>
  dec1 .fn (Kd.enc .fn r16) fun (d30 : Option FV) =>
  f57_ d23 d24 d25 d26 d27 d28 d29 d30 h17 fun (r18 r19 r20 r21 : Option FV) (h22 : Heap) =>
  f55_ (some (⟨.func 60, [], []⟩ : FV)) 1099511627776 h22 fun (r31 r32 r33 r34 : Option FV) (h35 : Heap) =>
  f55_ (some (⟨.func 67, [], []⟩ : FV)) 1099511627776 h35 fun (r36 r37 r38 r39 : Option FV) (h40 : Heap) =>
  f75_ (some (⟨.func 76, [], []⟩ : FV)) 7 h40 fun (r41 r42 r43 r44 : Option FV) (h45 : Heap) =>
  f55_ (some (⟨.func 77, [], []⟩ : FV)) 1099511627776 h45 fun (r46 r47 r48 r49 : Option FV) (h50 : Heap) =>
  f78_ (some (⟨.func 79, [], []⟩ : FV)) h50 fun (r51 r52 r53 r54 : Option FV) (h55 : Heap) =>
  f78_ (some (⟨.func 80, [], []⟩ : FV)) h55 fun (r56 r57 r58 r59 : Option FV) (h60 : Heap) =>
  f55_ (some (⟨.func 81, [], []⟩ : FV)) 9007199254740992 h60 fun (r61 r62 r63 r64 : Option FV) (h65 : Heap) =>
  f55_ (some (⟨.func 82, [], []⟩ : FV)) 1099511627776 h65 fun (r66 r67 r68 r69 : Option FV) (h70 : Heap) =>
  f55_ (some (⟨.func 83, [], []⟩ : FV)) 1099511627776 h70 fun (r71 r72 r73 r74 : Option FV) (h75 : Heap) =>
  dec1 .fn (Kd.enc .fn r66) fun (d81 : Option FV) =>
  dec1 .fn (Kd.enc .fn r67) fun (d82 : Option FV) =>
  dec1 .fn (Kd.enc .fn r68) fun (d83 : Option FV) =>
  dec1 .fn (Kd.enc .fn r69) fun (d84 : Option FV) =>
  dec1 .fn (Kd.enc .fn r71) fun (d85 : Option FV) =>
  dec1 .fn (Kd.enc .fn r72) fun (d86 : Option FV) =>
  dec1 .fn (Kd.enc .fn r73) fun (d87 : Option FV) =>
  dec1 .fn (Kd.enc .fn r74) fun (d88 : Option FV) =>
  f57_ d81 d82 d83 d84 d85 d86 d87 d88 h75 fun (r76 r77 r78 r79 : Option FV) (h80 : Heap) =>
  f75_ (some (⟨.func 84, [], []⟩ : FV)) 3 h80 fun (r89 r90 r91 r92 : Option FV) (h93 : Heap) =>
  f75_ (some (⟨.func 85, [], []⟩ : FV)) 7 h93 fun (r94 r95 r96 r97 : Option FV) (h98 : Heap) =>
  f75_ (some (⟨.func 86, [], []⟩ : FV)) 4 h98 fun (r99 r100 r101 r102 : Option FV) (h103 : Heap) =>
  st a1 ((Kd.enc .fn r3) :: (Kd.enc .fn r4) :: (Kd.enc .fn r5) :: (Kd.enc .fn r6) :: (Kd.enc .fn r18) :: (Kd.enc .fn r19) :: (Kd.enc .fn r20) :: (Kd.enc .fn r21) :: (Kd.enc .fn r31) :: (Kd.enc .fn r32) :: (Kd.enc .fn r33) :: (Kd.enc .fn r34) :: (.func (.func 61) #[] #[]) :: (.func (.func 62) #[] #[]) :: (.func (.func 63) #[] #[]) :: (.func (.func 65) #[] #[]) :: (Kd.enc .fn r36) :: (Kd.enc .fn r37) :: (Kd.enc .fn r38) :: (Kd.enc .fn r39) :: (.func (.func 68) #[] #[]) :: (.func (.func 69) #[] #[]) :: (.func (.func 70) #[] #[]) :: (.func (.func 72) #[] #[]) :: (Kd.enc .fn r41) :: (Kd.enc .fn r42) :: (Kd.enc .fn r43) :: (Kd.enc .fn r44) :: (Kd.enc .fn r46) :: (Kd.enc .fn r47) :: (Kd.enc .fn r48) :: (Kd.enc .fn r49) :: (Kd.enc .fn r51) :: (Kd.enc .fn r52) :: (Kd.enc .fn r53) :: (Kd.enc .fn r54) :: (Kd.enc .fn r56) :: (Kd.enc .fn r57) :: (Kd.enc .fn r58) :: (Kd.enc .fn r59) :: (Kd.enc .fn r61) :: (Kd.enc .fn r62) :: (Kd.enc .fn r63) :: (Kd.enc .fn r64) :: (Kd.enc .fn r76) :: (Kd.enc .fn r77) :: (Kd.enc .fn r78) :: (Kd.enc .fn r79) :: (Kd.enc .fn r89) :: (Kd.enc .fn r90) :: (Kd.enc .fn r91) :: (Kd.enc .fn r92) :: (Kd.enc .fn r94) :: (Kd.enc .fn r95) :: (Kd.enc .fn r96) :: (Kd.enc .fn r97) :: (Kd.enc .fn r99) :: (Kd.enc .fn r100) :: (Kd.enc .fn r101) :: (Kd.enc .fn r102) :: (.func (.func 87) #[] #[]) :: (.func (.func 88) #[] #[]) :: (.func (.func 89) #[] #[]) :: (.func (.func 90) #[] #[]) :: []) h103 fun (h104 : Heap) =>
  ld (.fn :: .fn :: .fn :: .fn :: .fn :: .fn :: .fn :: .fn :: .fn :: .fn :: .fn :: .fn :: .fn :: .fn :: .fn :: .fn :: .fn :: .fn :: .fn :: .fn :: .fn :: .fn :: .fn :: .fn :: .fn :: .fn :: .fn :: .fn :: .fn :: .fn :: .fn :: .fn :: .fn :: .fn :: .fn :: .fn :: .fn :: .fn :: .fn :: .fn :: .fn :: .fn :: .fn :: .fn :: .fn :: .fn :: .fn :: .fn :: .fn :: .fn :: .fn :: .fn :: .fn :: .fn :: .fn :: .fn :: .fn :: .fn :: .fn :: .fn :: .fn :: .fn :: .fn :: .fn :: []) a1 h104 fun (v105 v106 v107 v108 v109 v110 v111 v112 v113 v114 v115 v116 v117 v118 v119 v120 v121 v122 v123 v124 v125 v126 v127 v128 v129 v130 v131 v132 v133 v134 v135 v136 v137 v138 v139 v140 v141 v142 v143 v144 v145 v146 v147 v148 v149 v150 v151 v152 v153 v154 v155 v156 v157 v158 v159 v160 v161 v162 v163 v164 v165 v166 v167 v168 : Option FV) =>
  Q v105 v106 v107 v108 v109 v110 v111 v112 v113 v114 v115 v116 v117 v118 v119 v120 v121 v122 v123 v124 v125 v126 v127 v128 v129 v130 v131 v132 v133 v134 v135 v136 v137 v138 v139 v140 v141 v142 v143 v144 v145 v146 v147 v148 v149 v150 v151 v152 v153 v154 v155 v156 v157 v158 v159 v160 v161 v162 v163 v164 v165 v166 v167 v168 h104
def F_message_table  (h : Heap) (Q : YO) : Prop := F_message_table_of F_message_number F_message_both F_message_small F_message_name  h Q
def plan32 : Plan := .s (.r [0]) (.s (.r [0]) .z)
theorem F_message_table.eq (f55_ : Y24) (f57_ : Y29) (f75_ : Y24) (f78_ : Y30) (h : Heap) (K : YV) : F_message_table_of f55_ f57_ f75_ f78_  h (fun (r0 r1 r2 r3 r4 r5 r6 r7 r8 r9 r10 r11 r12 r13 r14 r15 r16 r17 r18 r19 r20 r21 r22 r23 r24 r25 r26 r27 r28 r29 r30 r31 r32 r33 r34 r35 r36 r37 r38 r39 r40 r41 r42 r43 r44 r45 r46 r47 r48 r49 r50 r51 r52 r53 r54 r55 r56 r57 r58 r59 r60 r61 r62 r63 : Option FV) (h : Heap) => K (.agg (List.toArray ((Kd.enc .fn r0) :: (Kd.enc .fn r1) :: (Kd.enc .fn r2) :: (Kd.enc .fn r3) :: (Kd.enc .fn r4) :: (Kd.enc .fn r5) :: (Kd.enc .fn r6) :: (Kd.enc .fn r7) :: (Kd.enc .fn r8) :: (Kd.enc .fn r9) :: (Kd.enc .fn r10) :: (Kd.enc .fn r11) :: (Kd.enc .fn r12) :: (Kd.enc .fn r13) :: (Kd.enc .fn r14) :: (Kd.enc .fn r15) :: (Kd.enc .fn r16) :: (Kd.enc .fn r17) :: (Kd.enc .fn r18) :: (Kd.enc .fn r19) :: (Kd.enc .fn r20) :: (Kd.enc .fn r21) :: (Kd.enc .fn r22) :: (Kd.enc .fn r23) :: (Kd.enc .fn r24) :: (Kd.enc .fn r25) :: (Kd.enc .fn r26) :: (Kd.enc .fn r27) :: (Kd.enc .fn r28) :: (Kd.enc .fn r29) :: (Kd.enc .fn r30) :: (Kd.enc .fn r31) :: (Kd.enc .fn r32) :: (Kd.enc .fn r33) :: (Kd.enc .fn r34) :: (Kd.enc .fn r35) :: (Kd.enc .fn r36) :: (Kd.enc .fn r37) :: (Kd.enc .fn r38) :: (Kd.enc .fn r39) :: (Kd.enc .fn r40) :: (Kd.enc .fn r41) :: (Kd.enc .fn r42) :: (Kd.enc .fn r43) :: (Kd.enc .fn r44) :: (Kd.enc .fn r45) :: (Kd.enc .fn r46) :: (Kd.enc .fn r47) :: (Kd.enc .fn r48) :: (Kd.enc .fn r49) :: (Kd.enc .fn r50) :: (Kd.enc .fn r51) :: (Kd.enc .fn r52) :: (Kd.enc .fn r53) :: (Kd.enc .fn r54) :: (Kd.enc .fn r55) :: (Kd.enc .fn r56) :: (Kd.enc .fn r57) :: (Kd.enc .fn r58) :: (Kd.enc .fn r59) :: (Kd.enc .fn r60) :: (Kd.enc .fn r61) :: (Kd.enc .fn r62) :: (Kd.enc .fn r63) :: []))) h) =
    den Tryz.prog (fn1 55 (E_message_number_of f55_) (fn1 57 (E_message_both_of f57_) (fn1 75 (E_message_small_of f75_) (fn1 78 (E_message_name_of f78_) noFns)))) Tryz.f32.ntmps plan32 (bodyOf Tryz.f32) (args0 0 []) h (konF Tryz.f32 K) := by kernel_rfl
def E_message_table_of (f : Y19) : List Value → Heap → YV → Prop
  | [], h, K => f  h (fun (r0 r1 r2 r3 r4 r5 r6 r7 r8 r9 r10 r11 r12 r13 r14 r15 r16 r17 r18 r19 r20 r21 r22 r23 r24 r25 r26 r27 r28 r29 r30 r31 r32 r33 r34 r35 r36 r37 r38 r39 r40 r41 r42 r43 r44 r45 r46 r47 r48 r49 r50 r51 r52 r53 r54 r55 r56 r57 r58 r59 r60 r61 r62 r63 : Option FV) (h : Heap) => K (.agg (List.toArray ((Kd.enc .fn r0) :: (Kd.enc .fn r1) :: (Kd.enc .fn r2) :: (Kd.enc .fn r3) :: (Kd.enc .fn r4) :: (Kd.enc .fn r5) :: (Kd.enc .fn r6) :: (Kd.enc .fn r7) :: (Kd.enc .fn r8) :: (Kd.enc .fn r9) :: (Kd.enc .fn r10) :: (Kd.enc .fn r11) :: (Kd.enc .fn r12) :: (Kd.enc .fn r13) :: (Kd.enc .fn r14) :: (Kd.enc .fn r15) :: (Kd.enc .fn r16) :: (Kd.enc .fn r17) :: (Kd.enc .fn r18) :: (Kd.enc .fn r19) :: (Kd.enc .fn r20) :: (Kd.enc .fn r21) :: (Kd.enc .fn r22) :: (Kd.enc .fn r23) :: (Kd.enc .fn r24) :: (Kd.enc .fn r25) :: (Kd.enc .fn r26) :: (Kd.enc .fn r27) :: (Kd.enc .fn r28) :: (Kd.enc .fn r29) :: (Kd.enc .fn r30) :: (Kd.enc .fn r31) :: (Kd.enc .fn r32) :: (Kd.enc .fn r33) :: (Kd.enc .fn r34) :: (Kd.enc .fn r35) :: (Kd.enc .fn r36) :: (Kd.enc .fn r37) :: (Kd.enc .fn r38) :: (Kd.enc .fn r39) :: (Kd.enc .fn r40) :: (Kd.enc .fn r41) :: (Kd.enc .fn r42) :: (Kd.enc .fn r43) :: (Kd.enc .fn r44) :: (Kd.enc .fn r45) :: (Kd.enc .fn r46) :: (Kd.enc .fn r47) :: (Kd.enc .fn r48) :: (Kd.enc .fn r49) :: (Kd.enc .fn r50) :: (Kd.enc .fn r51) :: (Kd.enc .fn r52) :: (Kd.enc .fn r53) :: (Kd.enc .fn r54) :: (Kd.enc .fn r55) :: (Kd.enc .fn r56) :: (Kd.enc .fn r57) :: (Kd.enc .fn r58) :: (Kd.enc .fn r59) :: (Kd.enc .fn r60) :: (Kd.enc .fn r61) :: (Kd.enc .fn r62) :: (Kd.enc .fn r63) :: []))) h)
  | _, _, _ => False
abbrev E_message_table := E_message_table_of F_message_table
theorem E_message_table.nil (f : Y19) (h : Heap) (K : YV) : E_message_table_of f [] h K = f  h (fun (r0 r1 r2 r3 r4 r5 r6 r7 r8 r9 r10 r11 r12 r13 r14 r15 r16 r17 r18 r19 r20 r21 r22 r23 r24 r25 r26 r27 r28 r29 r30 r31 r32 r33 r34 r35 r36 r37 r38 r39 r40 r41 r42 r43 r44 r45 r46 r47 r48 r49 r50 r51 r52 r53 r54 r55 r56 r57 r58 r59 r60 r61 r62 r63 : Option FV) (h : Heap) => K (.agg (List.toArray ((Kd.enc .fn r0) :: (Kd.enc .fn r1) :: (Kd.enc .fn r2) :: (Kd.enc .fn r3) :: (Kd.enc .fn r4) :: (Kd.enc .fn r5) :: (Kd.enc .fn r6) :: (Kd.enc .fn r7) :: (Kd.enc .fn r8) :: (Kd.enc .fn r9) :: (Kd.enc .fn r10) :: (Kd.enc .fn r11) :: (Kd.enc .fn r12) :: (Kd.enc .fn r13) :: (Kd.enc .fn r14) :: (Kd.enc .fn r15) :: (Kd.enc .fn r16) :: (Kd.enc .fn r17) :: (Kd.enc .fn r18) :: (Kd.enc .fn r19) :: (Kd.enc .fn r20) :: (Kd.enc .fn r21) :: (Kd.enc .fn r22) :: (Kd.enc .fn r23) :: (Kd.enc .fn r24) :: (Kd.enc .fn r25) :: (Kd.enc .fn r26) :: (Kd.enc .fn r27) :: (Kd.enc .fn r28) :: (Kd.enc .fn r29) :: (Kd.enc .fn r30) :: (Kd.enc .fn r31) :: (Kd.enc .fn r32) :: (Kd.enc .fn r33) :: (Kd.enc .fn r34) :: (Kd.enc .fn r35) :: (Kd.enc .fn r36) :: (Kd.enc .fn r37) :: (Kd.enc .fn r38) :: (Kd.enc .fn r39) :: (Kd.enc .fn r40) :: (Kd.enc .fn r41) :: (Kd.enc .fn r42) :: (Kd.enc .fn r43) :: (Kd.enc .fn r44) :: (Kd.enc .fn r45) :: (Kd.enc .fn r46) :: (Kd.enc .fn r47) :: (Kd.enc .fn r48) :: (Kd.enc .fn r49) :: (Kd.enc .fn r50) :: (Kd.enc .fn r51) :: (Kd.enc .fn r52) :: (Kd.enc .fn r53) :: (Kd.enc .fn r54) :: (Kd.enc .fn r55) :: (Kd.enc .fn r56) :: (Kd.enc .fn r57) :: (Kd.enc .fn r58) :: (Kd.enc .fn r59) :: (Kd.enc .fn r60) :: (Kd.enc .fn r61) :: (Kd.enc .fn r62) :: (Kd.enc .fn r63) :: []))) h) := rfl
theorem E_message_table.right : IsRight Tryz.prog 32 E_message_table := by
  refine isRight fun vs K w hh => ?_
  match vs, hh with
  | [], hh =>
    replace hh := Eq.mp (E_message_table.nil F_message_table w.heap K) hh
    unfold F_message_table at hh
    exact calls_den (fn1_right ok55 E_message_number.right (fn1_right ok57 E_message_both.right (fn1_right ok75 E_message_small.right (fn1_right ok78 E_message_name.right noFns_right)))) plan32 _ w K Tryz.func32 (by kernel_rfl) (by kernel_rfl) (Eq.mp (F_message_table.eq F_message_number F_message_both F_message_small F_message_name  w.heap K) hh)
theorem ok32 : okFn Tryz.prog 32 = true := by kernel_rfl
def F_message_between_of  (n1 most2 : Int) (h : Heap) (Q : Bool → Heap → Prop) : Prop :=
  jn [(4, .one .bool)] (fun (x4 : Bool) (h5 : Heap) =>
  Q x4 h5) (fun (j3 : Bool → Heap → Prop) =>
  brr (decide (n1 ≥ 0))
  (j3 (decide (n1 < most2)) h)
  (j3 false h))
def F_message_between (n1 most2 : Int) (h : Heap) (Q : Bool → Heap → Prop) : Prop := F_message_between_of  n1 most2 h Q
def plan53 : Plan := .s (.r [0, 1]) (.s (.rj [(4, .one .bool)] []) .z)
theorem F_message_between.eq  (n1 most2 : Int) (h : Heap) (K : YV) : F_message_between_of  n1 most2 h (fun (r0 : Bool) (h : Heap) => K (.bool r0) h) =
    den Tryz.prog noFns Tryz.f53.ntmps plan53 (bodyOf Tryz.f53) (args0 0 [(.int .i64 n1 : Value), (.int .i64 most2 : Value)]) h (konF Tryz.f53 K) := by kernel_rfl
def E_message_between_of (f : Y31) : List Value → Heap → YV → Prop
  | [v0, v1], h, K => dec1 (.int .i64) v0 fun (n1 : Int) =>
  dec1 (.int .i64) v1 fun (most2 : Int) =>
  f n1 most2 h (fun (r0 : Bool) (h : Heap) => K (.bool r0) h)
  | _, _, _ => False
abbrev E_message_between := E_message_between_of F_message_between
theorem E_message_between.right : IsRight Tryz.prog 53 E_message_between := by
  refine isRight fun vs K w hh => ?_
  match vs, hh with
  | [v0, v1], hh =>
    unfold E_message_between E_message_between_of at hh
    replace hh := dec1_sound hh; obtain ⟨n1, rfl, hh⟩ := hh
    replace hh := dec1_sound hh; obtain ⟨most2, rfl, hh⟩ := hh
    unfold F_message_between at hh
    exact calls_den noFns_right plan53 _ w K Tryz.func53 (by kernel_rfl) (by kernel_rfl) (Eq.mp (F_message_between.eq  n1 most2 w.heap K) hh)
theorem ok53 : okFn Tryz.prog 53 = true := by kernel_rfl
def F_message_number_1_of (f56_ f58_ f59_ f60_ f67_ f77_ f81_ f82_ f83_ : Y1) (Φ_ : Fns) (m1 : Option Addr) (x2 x3 : Addr) (h : Heap) (Q : Bool → Heap → Prop) : Prop :=
  ld [.fn] x2 h fun (v4 : Option FV) =>
  ld [.int .u64] x3 h fun (v5 : Int) =>
  dyn1 .ptr Φ_ (Kd.enc .fn v4) [(.pointer m1 : Value)] h fun (r7 : Option Addr) (h6 : Heap) =>
  cellsAre h6 x3 [.int .u64 v5] ∧
  nn r7 fun (a8 : Addr) =>
  ld [.int .u64] a8 h6 fun (v9 : Int) =>
  Q (decide (v9 ≤ v5)) h6
def F_message_number_1 (m1 : Option Addr) (x2 x3 : Addr) (h : Heap) (Q : Bool → Heap → Prop) : Prop := F_message_number_1_of F_message_table_1 F_message_table_2 F_message_table_3 F_message_table_4 F_message_table_9 F_message_table_15 F_message_table_18 F_message_table_19 F_message_table_20 (fn1 56 E_message_table_1 (fn1 58 E_message_table_2 (fn1 59 E_message_table_3 (fn1 60 E_message_table_4 (fn1 67 E_message_table_9 (fn1 77 E_message_table_15 (fn1 81 E_message_table_18 (fn1 82 E_message_table_19 (fn1 83 E_message_table_20 noFns))))))))) m1 x2 x3 h Q
def plan122 : Plan := .s (.r [0, 1, 2]) (.s (.d [0, 0, 3, 7, 15, 0, 63, 127] [[0, 1, 5, 2, 3, 4, 6, 7]] [4]) .z)
theorem F_message_number_1.eq (f56_ f58_ f59_ f60_ f67_ f77_ f81_ f82_ f83_ : Y1) (m1 : Option Addr) (x2 x3 : Addr) (h : Heap) (K : YV) : F_message_number_1_of f56_ f58_ f59_ f60_ f67_ f77_ f81_ f82_ f83_ (fn1 56 (E_message_table_1_of f56_) (fn1 58 (E_message_table_2_of f58_) (fn1 59 (E_message_table_3_of f59_) (fn1 60 (E_message_table_4_of f60_) (fn1 67 (E_message_table_9_of f67_) (fn1 77 (E_message_table_15_of f77_) (fn1 81 (E_message_table_18_of f81_) (fn1 82 (E_message_table_19_of f82_) (fn1 83 (E_message_table_20_of f83_) noFns))))))))) m1 x2 x3 h (fun (r0 : Bool) (h : Heap) => K (.bool r0) h) =
    den Tryz.prog (fn1 56 (E_message_table_1_of f56_) (fn1 58 (E_message_table_2_of f58_) (fn1 59 (E_message_table_3_of f59_) (fn1 60 (E_message_table_4_of f60_) (fn1 67 (E_message_table_9_of f67_) (fn1 77 (E_message_table_15_of f77_) (fn1 81 (E_message_table_18_of f81_) (fn1 82 (E_message_table_19_of f82_) (fn1 83 (E_message_table_20_of f83_) noFns))))))))) Tryz.f122.ntmps plan122 (bodyOf Tryz.f122) (args0 0 [(.pointer m1 : Value), (.pointer (some x2) : Value), (.pointer (some x3) : Value)]) h (konF Tryz.f122 K) := by kernel_rfl
def E_message_number_1_of (f : Y9) : List Value → Heap → YV → Prop
  | [v0, v1, v2], h, K => dec1 .ptr v0 fun (m1 : Option Addr) =>
  dec1 .addr v1 fun (x2 : Addr) =>
  dec1 .addr v2 fun (x3 : Addr) =>
  f m1 x2 x3 h (fun (r0 : Bool) (h : Heap) => K (.bool r0) h)
  | _, _, _ => False
abbrev E_message_number_1 := E_message_number_1_of F_message_number_1
theorem E_message_number_1.at (f : Y9) (m1 : Option Addr) (x2 x3 : Addr) (h : Heap) (K : YV) : E_message_number_1_of f [.pointer m1, .pointer (some x2), .pointer (some x3)] h K = f m1 x2 x3 h (fun (r0 : Bool) (h : Heap) => K (.bool r0) h) := rfl
theorem E_message_number_1.right : IsRight Tryz.prog 122 E_message_number_1 := by
  refine isRight fun vs K w hh => ?_
  match vs, hh with
  | [v0, v1, v2], hh =>
    unfold E_message_number_1 E_message_number_1_of at hh
    replace hh := dec1_sound hh; obtain ⟨m1, rfl, hh⟩ := hh
    replace hh := dec1_sound hh; obtain ⟨x2, rfl, hh⟩ := hh
    replace hh := dec1_sound hh; obtain ⟨x3, rfl, hh⟩ := hh
    unfold F_message_number_1 at hh
    exact calls_den (fn1_right ok56 E_message_table_1.right (fn1_right ok58 E_message_table_2.right (fn1_right ok59 E_message_table_3.right (fn1_right ok60 E_message_table_4.right (fn1_right ok67 E_message_table_9.right (fn1_right ok77 E_message_table_15.right (fn1_right ok81 E_message_table_18.right (fn1_right ok82 E_message_table_19.right (fn1_right ok83 E_message_table_20.right noFns_right))))))))) plan122 _ w K Tryz.func122 (by kernel_rfl) (by kernel_rfl) (Eq.mp (F_message_number_1.eq F_message_table_1 F_message_table_2 F_message_table_3 F_message_table_4 F_message_table_9 F_message_table_15 F_message_table_18 F_message_table_19 F_message_table_20 m1 x2 x3 w.heap K) hh)
theorem ok122 : okFn Tryz.prog 122 = true := by kernel_rfl
def F_message_number_2_of (f56_ f58_ f59_ f60_ f67_ f77_ f81_ f82_ f83_ : Y1) (Φ_ : Fns) (m1 : Option Addr) (x2 : Addr) (h : Heap) (Q : Bool → Heap → Prop) : Prop :=
  ld [.fn] x2 h fun (v3 : Option FV) =>
  dyn1 .ptr Φ_ (Kd.enc .fn v3) [(.pointer m1 : Value)] h fun (r5 : Option Addr) (h4 : Heap) =>
  nn r5 fun (a6 : Addr) =>
  ld [.int .u64] a6 h4 fun (v7 : Int) =>
  Q (v7 == 0) h4
def F_message_number_2 (m1 : Option Addr) (x2 : Addr) (h : Heap) (Q : Bool → Heap → Prop) : Prop := F_message_number_2_of F_message_table_1 F_message_table_2 F_message_table_3 F_message_table_4 F_message_table_9 F_message_table_15 F_message_table_18 F_message_table_19 F_message_table_20 (fn1 56 E_message_table_1 (fn1 58 E_message_table_2 (fn1 59 E_message_table_3 (fn1 60 E_message_table_4 (fn1 67 E_message_table_9 (fn1 77 E_message_table_15 (fn1 81 E_message_table_18 (fn1 82 E_message_table_19 (fn1 83 E_message_table_20 noFns))))))))) m1 x2 h Q
def plan123 : Plan := .s (.r [0, 1]) (.s (.r [3]) .z)
theorem F_message_number_2.eq (f56_ f58_ f59_ f60_ f67_ f77_ f81_ f82_ f83_ : Y1) (m1 : Option Addr) (x2 : Addr) (h : Heap) (K : YV) : F_message_number_2_of f56_ f58_ f59_ f60_ f67_ f77_ f81_ f82_ f83_ (fn1 56 (E_message_table_1_of f56_) (fn1 58 (E_message_table_2_of f58_) (fn1 59 (E_message_table_3_of f59_) (fn1 60 (E_message_table_4_of f60_) (fn1 67 (E_message_table_9_of f67_) (fn1 77 (E_message_table_15_of f77_) (fn1 81 (E_message_table_18_of f81_) (fn1 82 (E_message_table_19_of f82_) (fn1 83 (E_message_table_20_of f83_) noFns))))))))) m1 x2 h (fun (r0 : Bool) (h : Heap) => K (.bool r0) h) =
    den Tryz.prog (fn1 56 (E_message_table_1_of f56_) (fn1 58 (E_message_table_2_of f58_) (fn1 59 (E_message_table_3_of f59_) (fn1 60 (E_message_table_4_of f60_) (fn1 67 (E_message_table_9_of f67_) (fn1 77 (E_message_table_15_of f77_) (fn1 81 (E_message_table_18_of f81_) (fn1 82 (E_message_table_19_of f82_) (fn1 83 (E_message_table_20_of f83_) noFns))))))))) Tryz.f123.ntmps plan123 (bodyOf Tryz.f123) (args0 0 [(.pointer m1 : Value), (.pointer (some x2) : Value)]) h (konF Tryz.f123 K) := by kernel_rfl
def E_message_number_2_of (f : Y5) : List Value → Heap → YV → Prop
  | [v0, v1], h, K => dec1 .ptr v0 fun (m1 : Option Addr) =>
  dec1 .addr v1 fun (x2 : Addr) =>
  f m1 x2 h (fun (r0 : Bool) (h : Heap) => K (.bool r0) h)
  | _, _, _ => False
abbrev E_message_number_2 := E_message_number_2_of F_message_number_2
theorem E_message_number_2.at (f : Y5) (m1 : Option Addr) (x2 : Addr) (h : Heap) (K : YV) : E_message_number_2_of f [.pointer m1, .pointer (some x2)] h K = f m1 x2 h (fun (r0 : Bool) (h : Heap) => K (.bool r0) h) := rfl
theorem E_message_number_2.right : IsRight Tryz.prog 123 E_message_number_2 := by
  refine isRight fun vs K w hh => ?_
  match vs, hh with
  | [v0, v1], hh =>
    unfold E_message_number_2 E_message_number_2_of at hh
    replace hh := dec1_sound hh; obtain ⟨m1, rfl, hh⟩ := hh
    replace hh := dec1_sound hh; obtain ⟨x2, rfl, hh⟩ := hh
    unfold F_message_number_2 at hh
    exact calls_den (fn1_right ok56 E_message_table_1.right (fn1_right ok58 E_message_table_2.right (fn1_right ok59 E_message_table_3.right (fn1_right ok60 E_message_table_4.right (fn1_right ok67 E_message_table_9.right (fn1_right ok77 E_message_table_15.right (fn1_right ok81 E_message_table_18.right (fn1_right ok82 E_message_table_19.right (fn1_right ok83 E_message_table_20.right noFns_right))))))))) plan123 _ w K Tryz.func123 (by kernel_rfl) (by kernel_rfl) (Eq.mp (F_message_number_2.eq F_message_table_1 F_message_table_2 F_message_table_3 F_message_table_4 F_message_table_9 F_message_table_15 F_message_table_18 F_message_table_19 F_message_table_20 m1 x2 w.heap K) hh)
theorem ok123 : okFn Tryz.prog 123 = true := by kernel_rfl
def F_message_small_1_of (f76_ f84_ f85_ f86_ : Y1) (Φ_ : Fns) (m1 : Option Addr) (x2 x3 : Addr) (h : Heap) (Q : Bool → Heap → Prop) : Prop :=
  jn [(4, .one .bool)] (fun (x16 : Bool) (h17 : Heap) =>
  Q x16 h17) (fun (j4 : Bool → Heap → Prop) =>
  ld [.fn] x2 h fun (v5 : Option FV) =>
  dyn1 .ptr Φ_ (Kd.enc .fn v5) [(.pointer m1 : Value)] h fun (r7 : Option Addr) (h6 : Heap) =>
  nn r7 fun (a8 : Addr) =>
  ld [.int .i64] a8 h6 fun (v9 : Int) =>
  brr (decide (v9 ≥ 0))
  (ld [.fn] x2 h6 fun (v10 : Option FV) =>
  ld [.int .i64] x3 h6 fun (v11 : Int) =>
  dyn1 .ptr Φ_ (Kd.enc .fn v10) [(.pointer m1 : Value)] h6 fun (r13 : Option Addr) (h12 : Heap) =>
  cellsAre h12 x3 [.int .i64 v11] ∧
  nn r13 fun (a14 : Addr) =>
  ld [.int .i64] a14 h12 fun (v15 : Int) =>
  j4 (decide (v15 ≤ v11)) h12)
  (j4 false h6))
def F_message_small_1 (m1 : Option Addr) (x2 x3 : Addr) (h : Heap) (Q : Bool → Heap → Prop) : Prop := F_message_small_1_of F_message_table_14 F_message_table_21 F_message_table_22 F_message_table_23 (fn1 76 E_message_table_14 (fn1 84 E_message_table_21 (fn1 85 E_message_table_22 (fn1 86 E_message_table_23 noFns)))) m1 x2 x3 h Q
def plan134 : Plan := .s (.r [0, 1, 2]) (.s (.dj [0, 0, 3, 7, 15, 31, 63, 127, 127, 511, 1023, 2047, 127, 8191, 16383, 32767] [[0, 1, 2, 3, 4, 5, 6, 7, 8, 12, 9, 10, 11, 13, 14, 15]] [(4, .one .bool)] []) .z)
theorem F_message_small_1.eq (f76_ f84_ f85_ f86_ : Y1) (m1 : Option Addr) (x2 x3 : Addr) (h : Heap) (K : YV) : F_message_small_1_of f76_ f84_ f85_ f86_ (fn1 76 (E_message_table_14_of f76_) (fn1 84 (E_message_table_21_of f84_) (fn1 85 (E_message_table_22_of f85_) (fn1 86 (E_message_table_23_of f86_) noFns)))) m1 x2 x3 h (fun (r0 : Bool) (h : Heap) => K (.bool r0) h) =
    den Tryz.prog (fn1 76 (E_message_table_14_of f76_) (fn1 84 (E_message_table_21_of f84_) (fn1 85 (E_message_table_22_of f85_) (fn1 86 (E_message_table_23_of f86_) noFns)))) Tryz.f134.ntmps plan134 (bodyOf Tryz.f134) (args0 0 [(.pointer m1 : Value), (.pointer (some x2) : Value), (.pointer (some x3) : Value)]) h (konF Tryz.f134 K) := by kernel_rfl
def E_message_small_1_of (f : Y9) : List Value → Heap → YV → Prop
  | [v0, v1, v2], h, K => dec1 .ptr v0 fun (m1 : Option Addr) =>
  dec1 .addr v1 fun (x2 : Addr) =>
  dec1 .addr v2 fun (x3 : Addr) =>
  f m1 x2 x3 h (fun (r0 : Bool) (h : Heap) => K (.bool r0) h)
  | _, _, _ => False
abbrev E_message_small_1 := E_message_small_1_of F_message_small_1
theorem E_message_small_1.at (f : Y9) (m1 : Option Addr) (x2 x3 : Addr) (h : Heap) (K : YV) : E_message_small_1_of f [.pointer m1, .pointer (some x2), .pointer (some x3)] h K = f m1 x2 x3 h (fun (r0 : Bool) (h : Heap) => K (.bool r0) h) := rfl
theorem E_message_small_1.right : IsRight Tryz.prog 134 E_message_small_1 := by
  refine isRight fun vs K w hh => ?_
  match vs, hh with
  | [v0, v1, v2], hh =>
    unfold E_message_small_1 E_message_small_1_of at hh
    replace hh := dec1_sound hh; obtain ⟨m1, rfl, hh⟩ := hh
    replace hh := dec1_sound hh; obtain ⟨x2, rfl, hh⟩ := hh
    replace hh := dec1_sound hh; obtain ⟨x3, rfl, hh⟩ := hh
    unfold F_message_small_1 at hh
    exact calls_den (fn1_right ok76 E_message_table_14.right (fn1_right ok84 E_message_table_21.right (fn1_right ok85 E_message_table_22.right (fn1_right ok86 E_message_table_23.right noFns_right)))) plan134 _ w K Tryz.func134 (by kernel_rfl) (by kernel_rfl) (Eq.mp (F_message_small_1.eq F_message_table_14 F_message_table_21 F_message_table_22 F_message_table_23 m1 x2 x3 w.heap K) hh)
theorem ok134 : okFn Tryz.prog 134 = true := by kernel_rfl
def F_message_small_2_of (f76_ f84_ f85_ f86_ : Y1) (Φ_ : Fns) (m1 : Option Addr) (x2 : Addr) (h : Heap) (Q : Bool → Heap → Prop) : Prop :=
  ld [.fn] x2 h fun (v3 : Option FV) =>
  dyn1 .ptr Φ_ (Kd.enc .fn v3) [(.pointer m1 : Value)] h fun (r5 : Option Addr) (h4 : Heap) =>
  nn r5 fun (a6 : Addr) =>
  ld [.int .i64] a6 h4 fun (v7 : Int) =>
  Q (v7 == 0) h4
def F_message_small_2 (m1 : Option Addr) (x2 : Addr) (h : Heap) (Q : Bool → Heap → Prop) : Prop := F_message_small_2_of F_message_table_14 F_message_table_21 F_message_table_22 F_message_table_23 (fn1 76 E_message_table_14 (fn1 84 E_message_table_21 (fn1 85 E_message_table_22 (fn1 86 E_message_table_23 noFns)))) m1 x2 h Q
def plan135 : Plan := .s (.r [0, 1]) (.s (.r [3]) .z)
theorem F_message_small_2.eq (f76_ f84_ f85_ f86_ : Y1) (m1 : Option Addr) (x2 : Addr) (h : Heap) (K : YV) : F_message_small_2_of f76_ f84_ f85_ f86_ (fn1 76 (E_message_table_14_of f76_) (fn1 84 (E_message_table_21_of f84_) (fn1 85 (E_message_table_22_of f85_) (fn1 86 (E_message_table_23_of f86_) noFns)))) m1 x2 h (fun (r0 : Bool) (h : Heap) => K (.bool r0) h) =
    den Tryz.prog (fn1 76 (E_message_table_14_of f76_) (fn1 84 (E_message_table_21_of f84_) (fn1 85 (E_message_table_22_of f85_) (fn1 86 (E_message_table_23_of f86_) noFns)))) Tryz.f135.ntmps plan135 (bodyOf Tryz.f135) (args0 0 [(.pointer m1 : Value), (.pointer (some x2) : Value)]) h (konF Tryz.f135 K) := by kernel_rfl
def E_message_small_2_of (f : Y5) : List Value → Heap → YV → Prop
  | [v0, v1], h, K => dec1 .ptr v0 fun (m1 : Option Addr) =>
  dec1 .addr v1 fun (x2 : Addr) =>
  f m1 x2 h (fun (r0 : Bool) (h : Heap) => K (.bool r0) h)
  | _, _, _ => False
abbrev E_message_small_2 := E_message_small_2_of F_message_small_2
theorem E_message_small_2.at (f : Y5) (m1 : Option Addr) (x2 : Addr) (h : Heap) (K : YV) : E_message_small_2_of f [.pointer m1, .pointer (some x2)] h K = f m1 x2 h (fun (r0 : Bool) (h : Heap) => K (.bool r0) h) := rfl
theorem E_message_small_2.right : IsRight Tryz.prog 135 E_message_small_2 := by
  refine isRight fun vs K w hh => ?_
  match vs, hh with
  | [v0, v1], hh =>
    unfold E_message_small_2 E_message_small_2_of at hh
    replace hh := dec1_sound hh; obtain ⟨m1, rfl, hh⟩ := hh
    replace hh := dec1_sound hh; obtain ⟨x2, rfl, hh⟩ := hh
    unfold F_message_small_2 at hh
    exact calls_den (fn1_right ok76 E_message_table_14.right (fn1_right ok84 E_message_table_21.right (fn1_right ok85 E_message_table_22.right (fn1_right ok86 E_message_table_23.right noFns_right)))) plan135 _ w K Tryz.func135 (by kernel_rfl) (by kernel_rfl) (Eq.mp (F_message_small_2.eq F_message_table_14 F_message_table_21 F_message_table_22 F_message_table_23 m1 x2 w.heap K) hh)
theorem ok135 : okFn Tryz.prog 135 = true := by kernel_rfl
def F_message_name_1_of (f79_ f80_ : Y1) (Φ_ : Fns) (m1 : Option Addr) (x2 : Addr) (h : Heap) (Q : Bool → Heap → Prop) : Prop :=
  ld [.fn] x2 h fun (v3 : Option FV) =>
  dyn1 .ptr Φ_ (Kd.enc .fn v3) [(.pointer m1 : Value)] h fun (r5 : Option Addr) (h4 : Heap) =>
  nn r5 fun (a6 : Addr) =>
  ld [.str] a6 h4 fun (v7 : ByteArray) =>
  Q (decide ((v7.size : Int) ≤ 64)) h4
def F_message_name_1 (m1 : Option Addr) (x2 : Addr) (h : Heap) (Q : Bool → Heap → Prop) : Prop := F_message_name_1_of F_message_table_16 F_message_table_17 (fn1 79 E_message_table_16 (fn1 80 E_message_table_17 noFns)) m1 x2 h Q
def plan138 : Plan := .s (.r [0, 1]) (.s (.r [3]) .z)
theorem F_message_name_1.eq (f79_ f80_ : Y1) (m1 : Option Addr) (x2 : Addr) (h : Heap) (K : YV) : F_message_name_1_of f79_ f80_ (fn1 79 (E_message_table_16_of f79_) (fn1 80 (E_message_table_17_of f80_) noFns)) m1 x2 h (fun (r0 : Bool) (h : Heap) => K (.bool r0) h) =
    den Tryz.prog (fn1 79 (E_message_table_16_of f79_) (fn1 80 (E_message_table_17_of f80_) noFns)) Tryz.f138.ntmps plan138 (bodyOf Tryz.f138) (args0 0 [(.pointer m1 : Value), (.pointer (some x2) : Value)]) h (konF Tryz.f138 K) := by kernel_rfl
def E_message_name_1_of (f : Y5) : List Value → Heap → YV → Prop
  | [v0, v1], h, K => dec1 .ptr v0 fun (m1 : Option Addr) =>
  dec1 .addr v1 fun (x2 : Addr) =>
  f m1 x2 h (fun (r0 : Bool) (h : Heap) => K (.bool r0) h)
  | _, _, _ => False
abbrev E_message_name_1 := E_message_name_1_of F_message_name_1
theorem E_message_name_1.at (f : Y5) (m1 : Option Addr) (x2 : Addr) (h : Heap) (K : YV) : E_message_name_1_of f [.pointer m1, .pointer (some x2)] h K = f m1 x2 h (fun (r0 : Bool) (h : Heap) => K (.bool r0) h) := rfl
theorem E_message_name_1.right : IsRight Tryz.prog 138 E_message_name_1 := by
  refine isRight fun vs K w hh => ?_
  match vs, hh with
  | [v0, v1], hh =>
    unfold E_message_name_1 E_message_name_1_of at hh
    replace hh := dec1_sound hh; obtain ⟨m1, rfl, hh⟩ := hh
    replace hh := dec1_sound hh; obtain ⟨x2, rfl, hh⟩ := hh
    unfold F_message_name_1 at hh
    exact calls_den (fn1_right ok79 E_message_table_16.right (fn1_right ok80 E_message_table_17.right noFns_right)) plan138 _ w K Tryz.func138 (by kernel_rfl) (by kernel_rfl) (Eq.mp (F_message_name_1.eq F_message_table_16 F_message_table_17 m1 x2 w.heap K) hh)
theorem ok138 : okFn Tryz.prog 138 = true := by kernel_rfl
def F_message_name_2_of (f79_ f80_ : Y1) (Φ_ : Fns) (m1 : Option Addr) (x2 : Addr) (h : Heap) (Q : Bool → Heap → Prop) : Prop :=
  ld [.fn] x2 h fun (v3 : Option FV) =>
  dyn1 .ptr Φ_ (Kd.enc .fn v3) [(.pointer m1 : Value)] h fun (r5 : Option Addr) (h4 : Heap) =>
  nn r5 fun (a6 : Addr) =>
  ld [.str] a6 h4 fun (v7 : ByteArray) =>
  Q (v7.toList == (⟨#[]⟩ : ByteArray).toList) h4
def F_message_name_2 (m1 : Option Addr) (x2 : Addr) (h : Heap) (Q : Bool → Heap → Prop) : Prop := F_message_name_2_of F_message_table_16 F_message_table_17 (fn1 79 E_message_table_16 (fn1 80 E_message_table_17 noFns)) m1 x2 h Q
def plan139 : Plan := .s (.r [0, 1]) (.s (.r [3]) .z)
theorem F_message_name_2.eq (f79_ f80_ : Y1) (m1 : Option Addr) (x2 : Addr) (h : Heap) (K : YV) : F_message_name_2_of f79_ f80_ (fn1 79 (E_message_table_16_of f79_) (fn1 80 (E_message_table_17_of f80_) noFns)) m1 x2 h (fun (r0 : Bool) (h : Heap) => K (.bool r0) h) =
    den Tryz.prog (fn1 79 (E_message_table_16_of f79_) (fn1 80 (E_message_table_17_of f80_) noFns)) Tryz.f139.ntmps plan139 (bodyOf Tryz.f139) (args0 0 [(.pointer m1 : Value), (.pointer (some x2) : Value)]) h (konF Tryz.f139 K) := by kernel_rfl
def E_message_name_2_of (f : Y5) : List Value → Heap → YV → Prop
  | [v0, v1], h, K => dec1 .ptr v0 fun (m1 : Option Addr) =>
  dec1 .addr v1 fun (x2 : Addr) =>
  f m1 x2 h (fun (r0 : Bool) (h : Heap) => K (.bool r0) h)
  | _, _, _ => False
abbrev E_message_name_2 := E_message_name_2_of F_message_name_2
theorem E_message_name_2.at (f : Y5) (m1 : Option Addr) (x2 : Addr) (h : Heap) (K : YV) : E_message_name_2_of f [.pointer m1, .pointer (some x2)] h K = f m1 x2 h (fun (r0 : Bool) (h : Heap) => K (.bool r0) h) := rfl
theorem E_message_name_2.right : IsRight Tryz.prog 139 E_message_name_2 := by
  refine isRight fun vs K w hh => ?_
  match vs, hh with
  | [v0, v1], hh =>
    unfold E_message_name_2 E_message_name_2_of at hh
    replace hh := dec1_sound hh; obtain ⟨m1, rfl, hh⟩ := hh
    replace hh := dec1_sound hh; obtain ⟨x2, rfl, hh⟩ := hh
    unfold F_message_name_2 at hh
    exact calls_den (fn1_right ok79 E_message_table_16.right (fn1_right ok80 E_message_table_17.right noFns_right)) plan139 _ w K Tryz.func139 (by kernel_rfl) (by kernel_rfl) (Eq.mp (F_message_name_2.eq F_message_table_16 F_message_table_17 m1 x2 w.heap K) hh)
theorem ok139 : okFn Tryz.prog 139 = true := by kernel_rfl
def F_message_both_1_of (f61_ f62_ f68_ f69_ f87_ f88_ : Y3) (f122_ : Y9) (f123_ : Y5) (f134_ : Y9) (f135_ f138_ f139_ : Y5) (Φ_ : Fns) (m1 : Option Addr) (x2 x3 : Addr) (h : Heap) (Q : Bool → Heap → Prop) : Prop :=
  jn [(4, .one .bool)] (fun (x11 : Bool) (h12 : Heap) =>
  Q x11 h12) (fun (j4 : Bool → Heap → Prop) =>
  ld [.fn] (x2.add 0) h fun (v5 : Option FV) =>
  dyn1 .bool Φ_ (Kd.enc .fn v5) [(.pointer m1 : Value)] h fun (r7 : Bool) (h6 : Heap) =>
  brr r7
  (ld [.fn] (x3.add 0) h6 fun (v8 : Option FV) =>
  dyn1 .bool Φ_ (Kd.enc .fn v8) [(.pointer m1 : Value)] h6 fun (r10 : Bool) (h9 : Heap) =>
  j4 r10 h9)
  (j4 false h6))
def F_message_both_1 (m1 : Option Addr) (x2 x3 : Addr) (h : Heap) (Q : Bool → Heap → Prop) : Prop := F_message_both_1_of F_message_table_5 F_message_table_6 F_message_table_10 F_message_table_11 F_message_table_24 F_message_table_25 F_message_number_1 F_message_number_2 F_message_small_1 F_message_small_2 F_message_name_1 F_message_name_2 (fn1 61 E_message_table_5 (fn1 62 E_message_table_6 (fn1 68 E_message_table_10 (fn1 69 E_message_table_11 (fn1 87 E_message_table_24 (fn1 88 E_message_table_25 (fn1 122 E_message_number_1 (fn1 123 E_message_number_2 (fn1 134 E_message_small_1 (fn1 135 E_message_small_2 (fn1 138 E_message_name_1 (fn1 139 E_message_name_2 noFns)))))))))))) m1 x2 x3 h Q
def plan126 : Plan := .s (.r [0, 1, 2]) (.s (.rj [(4, .one .bool)] []) .z)
theorem F_message_both_1.eq (f61_ f62_ f68_ f69_ f87_ f88_ : Y3) (f122_ : Y9) (f123_ : Y5) (f134_ : Y9) (f135_ f138_ f139_ : Y5) (m1 : Option Addr) (x2 x3 : Addr) (h : Heap) (K : YV) : F_message_both_1_of f61_ f62_ f68_ f69_ f87_ f88_ f122_ f123_ f134_ f135_ f138_ f139_ (fn1 61 (E_message_table_5_of f61_) (fn1 62 (E_message_table_6_of f62_) (fn1 68 (E_message_table_10_of f68_) (fn1 69 (E_message_table_11_of f69_) (fn1 87 (E_message_table_24_of f87_) (fn1 88 (E_message_table_25_of f88_) (fn1 122 (E_message_number_1_of f122_) (fn1 123 (E_message_number_2_of f123_) (fn1 134 (E_message_small_1_of f134_) (fn1 135 (E_message_small_2_of f135_) (fn1 138 (E_message_name_1_of f138_) (fn1 139 (E_message_name_2_of f139_) noFns)))))))))))) m1 x2 x3 h (fun (r0 : Bool) (h : Heap) => K (.bool r0) h) =
    den Tryz.prog (fn1 61 (E_message_table_5_of f61_) (fn1 62 (E_message_table_6_of f62_) (fn1 68 (E_message_table_10_of f68_) (fn1 69 (E_message_table_11_of f69_) (fn1 87 (E_message_table_24_of f87_) (fn1 88 (E_message_table_25_of f88_) (fn1 122 (E_message_number_1_of f122_) (fn1 123 (E_message_number_2_of f123_) (fn1 134 (E_message_small_1_of f134_) (fn1 135 (E_message_small_2_of f135_) (fn1 138 (E_message_name_1_of f138_) (fn1 139 (E_message_name_2_of f139_) noFns)))))))))))) Tryz.f126.ntmps plan126 (bodyOf Tryz.f126) (args0 0 [(.pointer m1 : Value), (.pointer (some x2) : Value), (.pointer (some x3) : Value)]) h (konF Tryz.f126 K) := by kernel_rfl
def E_message_both_1_of (f : Y9) : List Value → Heap → YV → Prop
  | [v0, v1, v2], h, K => dec1 .ptr v0 fun (m1 : Option Addr) =>
  dec1 .addr v1 fun (x2 : Addr) =>
  dec1 .addr v2 fun (x3 : Addr) =>
  f m1 x2 x3 h (fun (r0 : Bool) (h : Heap) => K (.bool r0) h)
  | _, _, _ => False
abbrev E_message_both_1 := E_message_both_1_of F_message_both_1
theorem E_message_both_1.at (f : Y9) (m1 : Option Addr) (x2 x3 : Addr) (h : Heap) (K : YV) : E_message_both_1_of f [.pointer m1, .pointer (some x2), .pointer (some x3)] h K = f m1 x2 x3 h (fun (r0 : Bool) (h : Heap) => K (.bool r0) h) := rfl
theorem E_message_both_1.right : IsRight Tryz.prog 126 E_message_both_1 := by
  refine isRight fun vs K w hh => ?_
  match vs, hh with
  | [v0, v1, v2], hh =>
    unfold E_message_both_1 E_message_both_1_of at hh
    replace hh := dec1_sound hh; obtain ⟨m1, rfl, hh⟩ := hh
    replace hh := dec1_sound hh; obtain ⟨x2, rfl, hh⟩ := hh
    replace hh := dec1_sound hh; obtain ⟨x3, rfl, hh⟩ := hh
    unfold F_message_both_1 at hh
    exact calls_den (fn1_right ok61 E_message_table_5.right (fn1_right ok62 E_message_table_6.right (fn1_right ok68 E_message_table_10.right (fn1_right ok69 E_message_table_11.right (fn1_right ok87 E_message_table_24.right (fn1_right ok88 E_message_table_25.right (fn1_right ok122 E_message_number_1.right (fn1_right ok123 E_message_number_2.right (fn1_right ok134 E_message_small_1.right (fn1_right ok135 E_message_small_2.right (fn1_right ok138 E_message_name_1.right (fn1_right ok139 E_message_name_2.right noFns_right)))))))))))) plan126 _ w K Tryz.func126 (by kernel_rfl) (by kernel_rfl) (Eq.mp (F_message_both_1.eq F_message_table_5 F_message_table_6 F_message_table_10 F_message_table_11 F_message_table_24 F_message_table_25 F_message_number_1 F_message_number_2 F_message_small_1 F_message_small_2 F_message_name_1 F_message_name_2 m1 x2 x3 w.heap K) hh)
theorem ok126 : okFn Tryz.prog 126 = true := by kernel_rfl
def F_message_both_2_of (f61_ f62_ f68_ f69_ f87_ f88_ : Y3) (f122_ : Y9) (f123_ : Y5) (f134_ : Y9) (f135_ f138_ f139_ : Y5) (Φ_ : Fns) (m1 : Option Addr) (x2 x3 : Addr) (h : Heap) (Q : Bool → Heap → Prop) : Prop :=
  jn [(4, .one .bool)] (fun (x11 : Bool) (h12 : Heap) =>
  Q x11 h12) (fun (j4 : Bool → Heap → Prop) =>
  ld [.fn] (x2.add 1) h fun (v5 : Option FV) =>
  dyn1 .bool Φ_ (Kd.enc .fn v5) [(.pointer m1 : Value)] h fun (r7 : Bool) (h6 : Heap) =>
  brr r7
  (ld [.fn] (x3.add 1) h6 fun (v8 : Option FV) =>
  dyn1 .bool Φ_ (Kd.enc .fn v8) [(.pointer m1 : Value)] h6 fun (r10 : Bool) (h9 : Heap) =>
  j4 r10 h9)
  (j4 false h6))
def F_message_both_2 (m1 : Option Addr) (x2 x3 : Addr) (h : Heap) (Q : Bool → Heap → Prop) : Prop := F_message_both_2_of F_message_table_5 F_message_table_6 F_message_table_10 F_message_table_11 F_message_table_24 F_message_table_25 F_message_number_1 F_message_number_2 F_message_small_1 F_message_small_2 F_message_name_1 F_message_name_2 (fn1 61 E_message_table_5 (fn1 62 E_message_table_6 (fn1 68 E_message_table_10 (fn1 69 E_message_table_11 (fn1 87 E_message_table_24 (fn1 88 E_message_table_25 (fn1 122 E_message_number_1 (fn1 123 E_message_number_2 (fn1 134 E_message_small_1 (fn1 135 E_message_small_2 (fn1 138 E_message_name_1 (fn1 139 E_message_name_2 noFns)))))))))))) m1 x2 x3 h Q
def plan127 : Plan := .s (.r [0, 1, 2]) (.s (.rj [(4, .one .bool)] []) .z)
theorem F_message_both_2.eq (f61_ f62_ f68_ f69_ f87_ f88_ : Y3) (f122_ : Y9) (f123_ : Y5) (f134_ : Y9) (f135_ f138_ f139_ : Y5) (m1 : Option Addr) (x2 x3 : Addr) (h : Heap) (K : YV) : F_message_both_2_of f61_ f62_ f68_ f69_ f87_ f88_ f122_ f123_ f134_ f135_ f138_ f139_ (fn1 61 (E_message_table_5_of f61_) (fn1 62 (E_message_table_6_of f62_) (fn1 68 (E_message_table_10_of f68_) (fn1 69 (E_message_table_11_of f69_) (fn1 87 (E_message_table_24_of f87_) (fn1 88 (E_message_table_25_of f88_) (fn1 122 (E_message_number_1_of f122_) (fn1 123 (E_message_number_2_of f123_) (fn1 134 (E_message_small_1_of f134_) (fn1 135 (E_message_small_2_of f135_) (fn1 138 (E_message_name_1_of f138_) (fn1 139 (E_message_name_2_of f139_) noFns)))))))))))) m1 x2 x3 h (fun (r0 : Bool) (h : Heap) => K (.bool r0) h) =
    den Tryz.prog (fn1 61 (E_message_table_5_of f61_) (fn1 62 (E_message_table_6_of f62_) (fn1 68 (E_message_table_10_of f68_) (fn1 69 (E_message_table_11_of f69_) (fn1 87 (E_message_table_24_of f87_) (fn1 88 (E_message_table_25_of f88_) (fn1 122 (E_message_number_1_of f122_) (fn1 123 (E_message_number_2_of f123_) (fn1 134 (E_message_small_1_of f134_) (fn1 135 (E_message_small_2_of f135_) (fn1 138 (E_message_name_1_of f138_) (fn1 139 (E_message_name_2_of f139_) noFns)))))))))))) Tryz.f127.ntmps plan127 (bodyOf Tryz.f127) (args0 0 [(.pointer m1 : Value), (.pointer (some x2) : Value), (.pointer (some x3) : Value)]) h (konF Tryz.f127 K) := by kernel_rfl
def E_message_both_2_of (f : Y9) : List Value → Heap → YV → Prop
  | [v0, v1, v2], h, K => dec1 .ptr v0 fun (m1 : Option Addr) =>
  dec1 .addr v1 fun (x2 : Addr) =>
  dec1 .addr v2 fun (x3 : Addr) =>
  f m1 x2 x3 h (fun (r0 : Bool) (h : Heap) => K (.bool r0) h)
  | _, _, _ => False
abbrev E_message_both_2 := E_message_both_2_of F_message_both_2
theorem E_message_both_2.at (f : Y9) (m1 : Option Addr) (x2 x3 : Addr) (h : Heap) (K : YV) : E_message_both_2_of f [.pointer m1, .pointer (some x2), .pointer (some x3)] h K = f m1 x2 x3 h (fun (r0 : Bool) (h : Heap) => K (.bool r0) h) := rfl
theorem E_message_both_2.right : IsRight Tryz.prog 127 E_message_both_2 := by
  refine isRight fun vs K w hh => ?_
  match vs, hh with
  | [v0, v1, v2], hh =>
    unfold E_message_both_2 E_message_both_2_of at hh
    replace hh := dec1_sound hh; obtain ⟨m1, rfl, hh⟩ := hh
    replace hh := dec1_sound hh; obtain ⟨x2, rfl, hh⟩ := hh
    replace hh := dec1_sound hh; obtain ⟨x3, rfl, hh⟩ := hh
    unfold F_message_both_2 at hh
    exact calls_den (fn1_right ok61 E_message_table_5.right (fn1_right ok62 E_message_table_6.right (fn1_right ok68 E_message_table_10.right (fn1_right ok69 E_message_table_11.right (fn1_right ok87 E_message_table_24.right (fn1_right ok88 E_message_table_25.right (fn1_right ok122 E_message_number_1.right (fn1_right ok123 E_message_number_2.right (fn1_right ok134 E_message_small_1.right (fn1_right ok135 E_message_small_2.right (fn1_right ok138 E_message_name_1.right (fn1_right ok139 E_message_name_2.right noFns_right)))))))))))) plan127 _ w K Tryz.func127 (by kernel_rfl) (by kernel_rfl) (Eq.mp (F_message_both_2.eq F_message_table_5 F_message_table_6 F_message_table_10 F_message_table_11 F_message_table_24 F_message_table_25 F_message_number_1 F_message_number_2 F_message_small_1 F_message_small_2 F_message_name_1 F_message_name_2 m1 x2 x3 w.heap K) hh)
theorem ok127 : okFn Tryz.prog 127 = true := by kernel_rfl
def F_message_wrong.l1 (a24 : Addr) (v29 : Sl) (j30 : Heap → Prop) : Int → Heap → Prop :=
  wl [(55, .one (.int .i64))] (fun (next31 : Int → Heap → Prop) (x32 : Int) (h33 : Heap) =>
  brr (decide (x32 < ((v29.len : Nat) : Int)))
  (ixS 1 v29 x32 fun (a34 : Addr) =>
  ld [.int .i64] a34 h33 fun (v35 : Int) =>
  ixA 1 a24 16 v35 fun (a36 : Addr) =>
  st a36 [.bool true] h33 fun (h37 : Heap) =>
  next31 (IntKind.i64.wrap (x32 + 1)) h37)
  (j30 h33))
def F_message_wrong.l2 (m1 : Option Addr) (Φ_ : Fns) (Q : Int → Heap → Prop) (a24 : Addr) (r39 r40 r41 r42 r43 r44 r45 r46 r47 r48 r49 r50 r51 r52 r53 r54 r55 r56 r57 r58 r59 r60 r61 r62 r63 r64 r65 r66 r67 r68 r69 r70 r71 r72 r73 r74 r75 r76 r77 r78 r79 r80 r81 r82 r83 r84 r85 r86 r87 r88 r89 r90 r91 r92 r93 r94 r95 r96 r97 r98 r99 r100 r101 r102 : Option FV) (j104 : Heap → Prop) : Int → Heap → Prop :=
  wl [(63, .one (.int .i64))] (fun (next105 : Int → Heap → Prop) (x106 : Int) (h107 : Heap) =>
  brr (decide (x106 < 16))
  (0 ≤ x106 ∧ x106 < ((16 : Nat) : Int) ∧
  idxA [.fn, .fn, .fn, .fn] 4 ((Kd.enc .fn r39 : Value) :: (Kd.enc .fn r40 : Value) :: (Kd.enc .fn r41 : Value) :: (Kd.enc .fn r42 : Value) :: (Kd.enc .fn r43 : Value) :: (Kd.enc .fn r44 : Value) :: (Kd.enc .fn r45 : Value) :: (Kd.enc .fn r46 : Value) :: (Kd.enc .fn r47 : Value) :: (Kd.enc .fn r48 : Value) :: (Kd.enc .fn r49 : Value) :: (Kd.enc .fn r50 : Value) :: (Kd.enc .fn r51 : Value) :: (Kd.enc .fn r52 : Value) :: (Kd.enc .fn r53 : Value) :: (Kd.enc .fn r54 : Value) :: (Kd.enc .fn r55 : Value) :: (Kd.enc .fn r56 : Value) :: (Kd.enc .fn r57 : Value) :: (Kd.enc .fn r58 : Value) :: (Kd.enc .fn r59 : Value) :: (Kd.enc .fn r60 : Value) :: (Kd.enc .fn r61 : Value) :: (Kd.enc .fn r62 : Value) :: (Kd.enc .fn r63 : Value) :: (Kd.enc .fn r64 : Value) :: (Kd.enc .fn r65 : Value) :: (Kd.enc .fn r66 : Value) :: (Kd.enc .fn r67 : Value) :: (Kd.enc .fn r68 : Value) :: (Kd.enc .fn r69 : Value) :: (Kd.enc .fn r70 : Value) :: (Kd.enc .fn r71 : Value) :: (Kd.enc .fn r72 : Value) :: (Kd.enc .fn r73 : Value) :: (Kd.enc .fn r74 : Value) :: (Kd.enc .fn r75 : Value) :: (Kd.enc .fn r76 : Value) :: (Kd.enc .fn r77 : Value) :: (Kd.enc .fn r78 : Value) :: (Kd.enc .fn r79 : Value) :: (Kd.enc .fn r80 : Value) :: (Kd.enc .fn r81 : Value) :: (Kd.enc .fn r82 : Value) :: (Kd.enc .fn r83 : Value) :: (Kd.enc .fn r84 : Value) :: (Kd.enc .fn r85 : Value) :: (Kd.enc .fn r86 : Value) :: (Kd.enc .fn r87 : Value) :: (Kd.enc .fn r88 : Value) :: (Kd.enc .fn r89 : Value) :: (Kd.enc .fn r90 : Value) :: (Kd.enc .fn r91 : Value) :: (Kd.enc .fn r92 : Value) :: (Kd.enc .fn r93 : Value) :: (Kd.enc .fn r94 : Value) :: (Kd.enc .fn r95 : Value) :: (Kd.enc .fn r96 : Value) :: (Kd.enc .fn r97 : Value) :: (Kd.enc .fn r98 : Value) :: (Kd.enc .fn r99 : Value) :: (Kd.enc .fn r100 : Value) :: (Kd.enc .fn r101 : Value) :: (Kd.enc .fn r102 : Value) :: []) (x106.toNat * 4) fun (c108 c109 c110 c111 : Option FV) =>
  al 89 [.nilFunc, .nilFunc, .nilFunc, .nilFunc] h107 fun (a112 : Addr) (h113 : Heap) =>
  st a112 [Kd.enc .fn c108, Kd.enc .fn c109, Kd.enc .fn c110, Kd.enc .fn c111] h113 fun (h114 : Heap) =>
  jn [(89, .one .bool)] (fun (x131 : Bool) (h132 : Heap) =>
  brr x131
  (Q 83 h132)
  (next105 (IntKind.i64.wrap (x106 + 1)) h132)) (fun (j115 : Bool → Heap → Prop) =>
  ixA 1 a24 16 x106 fun (a116 : Addr) =>
  ld [.bool] a116 h114 fun (v117 : Bool) =>
  brr v117
  (ld [.fn] (a112.add 0) h114 fun (v118 : Option FV) =>
  dyn1 .bool Φ_ (Kd.enc .fn v118) [(.pointer m1 : Value)] h114 fun (r120 : Bool) (h119 : Heap) =>
  brr (!r120)
  (j115 true h119)
  (ixA 1 a24 16 x106 fun (a121 : Addr) =>
  ld [.bool] a121 h119 fun (v122 : Bool) =>
  brr (!v122)
  (ld [.fn] (a112.add 1) h119 fun (v123 : Option FV) =>
  dyn1 .bool Φ_ (Kd.enc .fn v123) [(.pointer m1 : Value)] h119 fun (r125 : Bool) (h124 : Heap) =>
  j115 (!r125) h124)
  (j115 false h119)))
  (ixA 1 a24 16 x106 fun (a126 : Addr) =>
  ld [.bool] a126 h114 fun (v127 : Bool) =>
  brr (!v127)
  (ld [.fn] (a112.add 1) h114 fun (v128 : Option FV) =>
  dyn1 .bool Φ_ (Kd.enc .fn v128) [(.pointer m1 : Value)] h114 fun (r130 : Bool) (h129 : Heap) =>
  j115 (!r130) h129)
  (j115 false h114))))
  (j104 h107))
def F_message_wrong_of (f32_ : Y19) (f53_ : Y31) (f61_ f62_ f68_ f69_ f87_ f88_ : Y3) (f122_ : Y9) (f123_ : Y5) (f126_ f127_ f134_ : Y9) (f135_ f138_ f139_ : Y5) (Φ_ : Fns) (m1 : Option Addr) (h : Heap) (Q : Int → Heap → Prop) : Prop :=
  jn [(21, .one .bool)] (fun (x7 : Bool) (h8 : Heap) =>
  brr x7
  (Q 80 h8)
  (jn [(46, .one .bool)] (fun (x22 : Bool) (h23 : Heap) =>
  brr x22
  (Q 83 h23)
  (al 114 [.bool false, .bool false, .bool false, .bool false, .bool false, .bool false, .bool false, .bool false, .bool false, .bool false, .bool false, .bool false, .bool false, .bool false, .bool false, .bool false] h23 fun (a24 : Addr) (h25 : Heap) =>
  nn m1 fun (a26 : Addr) =>
  ld [.int .i64] ((a26.add 0).add 0) h25 fun (v27 : Int) =>
  ixA 1 (Addr.mk 0 0 none) 12 v27 fun (a28 : Addr) =>
  ld [.sl] a28 h25 fun (v29 : Sl) =>
  jn [] (fun  (h38 : Heap) =>
  f32_ h38 fun (r39 r40 r41 r42 r43 r44 r45 r46 r47 r48 r49 r50 r51 r52 r53 r54 r55 r56 r57 r58 r59 r60 r61 r62 r63 r64 r65 r66 r67 r68 r69 r70 r71 r72 r73 r74 r75 r76 r77 r78 r79 r80 r81 r82 r83 r84 r85 r86 r87 r88 r89 r90 r91 r92 r93 r94 r95 r96 r97 r98 r99 r100 r101 r102 : Option FV) (h103 : Heap) =>
  jn [] (fun  (h133 : Heap) =>
  Q 0 h133) (fun (j104 : Heap → Prop) =>
  F_message_wrong.l2 m1 Φ_ Q a24 r39 r40 r41 r42 r43 r44 r45 r46 r47 r48 r49 r50 r51 r52 r53 r54 r55 r56 r57 r58 r59 r60 r61 r62 r63 r64 r65 r66 r67 r68 r69 r70 r71 r72 r73 r74 r75 r76 r77 r78 r79 r80 r81 r82 r83 r84 r85 r86 r87 r88 r89 r90 r91 r92 r93 r94 r95 r96 r97 r98 r99 r100 r101 r102 j104 0 h103)) (fun (j30 : Heap → Prop) =>
  F_message_wrong.l1 a24 v29 j30 0 h25))) (fun (j9 : Bool → Heap → Prop) =>
  nn m1 fun (a10 : Addr) =>
  ld [.int .i64] ((a10.add 0).add 1) h8 fun (v11 : Int) =>
  f53_ v11 9 h8 fun (r12 : Bool) (h13 : Heap) =>
  brr (!r12)
  (j9 true h13)
  (nn m1 fun (a14 : Addr) =>
  ld [.int .i64] ((a14.add 0).add 2) h13 fun (v15 : Int) =>
  f53_ v15 9 h13 fun (r16 : Bool) (h17 : Heap) =>
  brr (!r16)
  (j9 true h17)
  (nn m1 fun (a18 : Addr) =>
  ld [.int .i64] ((a18.add 0).add 3) h17 fun (v19 : Int) =>
  f53_ v19 8 h17 fun (r20 : Bool) (h21 : Heap) =>
  j9 (!r20) h21))))) (fun (j2 : Bool → Heap → Prop) =>
  nn m1 fun (a3 : Addr) =>
  ld [.int .i64] ((a3.add 0).add 0) h fun (v4 : Int) =>
  brr (decide (v4 < 1))
  (j2 true h)
  (nn m1 fun (a5 : Addr) =>
  ld [.int .i64] ((a5.add 0).add 0) h fun (v6 : Int) =>
  j2 (decide (v6 > 11)) h))
def F_message_wrong (m1 : Option Addr) (h : Heap) (Q : Int → Heap → Prop) : Prop := F_message_wrong_of F_message_table F_message_between F_message_table_5 F_message_table_6 F_message_table_10 F_message_table_11 F_message_table_24 F_message_table_25 F_message_number_1 F_message_number_2 F_message_both_1 F_message_both_2 F_message_small_1 F_message_small_2 F_message_name_1 F_message_name_2 (fn1 32 E_message_table (fn1 53 E_message_between (fn1 61 E_message_table_5 (fn1 62 E_message_table_6 (fn1 68 E_message_table_10 (fn1 69 E_message_table_11 (fn1 87 E_message_table_24 (fn1 88 E_message_table_25 (fn1 122 E_message_number_1 (fn1 123 E_message_number_2 (fn1 126 E_message_both_1 (fn1 127 E_message_both_2 (fn1 134 E_message_small_1 (fn1 135 E_message_small_2 (fn1 138 E_message_name_1 (fn1 139 E_message_name_2 noFns)))))))))))))))) m1 h Q
def plan29 : Plan := .s (.r [0]) (.s (.s (.rj [(21, .one .bool)] [0]) (.c (.s (.r [2]) .z) .z)) (.s (.s (.rj [(46, .one .bool)] [0]) (.c (.s (.r [2]) .z) .z)) (.s (.r [0, 3]) (.s (.s (.r [0, 3, 53, 54, 55]) (.bj [] [0, 3] (.l [(55, .one (.int .i64))] [0, 3, 53, 54] (.s (.r [0, 3, 53, 54, 55, 56]) (.s (.c .z .z) (.s (.b (.s (.r [0, 3, 5, 53, 54, 55]) (.r [0, 3, 53, 54, 55]))) (.r [0, 3, 53, 54, 55]))))))) (.s (.s (.r [0, 3, 62, 63]) (.bj [] [] (.l [(63, .one (.int .i64))] [0, 3, 62] (.s (.r [0, 3, 62, 63, 64]) (.s (.c .z .z) (.s (.b (.s (.r [0, 3, 6, 7, 62, 63]) (.s (.rj [(89, .one .bool)] [0, 3, 62, 63]) (.c (.s (.r [2]) .z) .z)))) (.r [0, 3, 62, 63]))))))) (.s (.r [2]) .z))))))
theorem F_message_wrong.eq (f32_ : Y19) (f53_ : Y31) (f61_ f62_ f68_ f69_ f87_ f88_ : Y3) (f122_ : Y9) (f123_ : Y5) (f126_ f127_ f134_ : Y9) (f135_ f138_ f139_ : Y5) (m1 : Option Addr) (h : Heap) (K : YV) : F_message_wrong_of f32_ f53_ f61_ f62_ f68_ f69_ f87_ f88_ f122_ f123_ f126_ f127_ f134_ f135_ f138_ f139_ (fn1 32 (E_message_table_of f32_) (fn1 53 (E_message_between_of f53_) (fn1 61 (E_message_table_5_of f61_) (fn1 62 (E_message_table_6_of f62_) (fn1 68 (E_message_table_10_of f68_) (fn1 69 (E_message_table_11_of f69_) (fn1 87 (E_message_table_24_of f87_) (fn1 88 (E_message_table_25_of f88_) (fn1 122 (E_message_number_1_of f122_) (fn1 123 (E_message_number_2_of f123_) (fn1 126 (E_message_both_1_of f126_) (fn1 127 (E_message_both_2_of f127_) (fn1 134 (E_message_small_1_of f134_) (fn1 135 (E_message_small_2_of f135_) (fn1 138 (E_message_name_1_of f138_) (fn1 139 (E_message_name_2_of f139_) noFns)))))))))))))))) m1 h (fun (r0 : Int) (h : Heap) => K (.int .i64 r0) h) =
    den Tryz.prog (fn1 32 (E_message_table_of f32_) (fn1 53 (E_message_between_of f53_) (fn1 61 (E_message_table_5_of f61_) (fn1 62 (E_message_table_6_of f62_) (fn1 68 (E_message_table_10_of f68_) (fn1 69 (E_message_table_11_of f69_) (fn1 87 (E_message_table_24_of f87_) (fn1 88 (E_message_table_25_of f88_) (fn1 122 (E_message_number_1_of f122_) (fn1 123 (E_message_number_2_of f123_) (fn1 126 (E_message_both_1_of f126_) (fn1 127 (E_message_both_2_of f127_) (fn1 134 (E_message_small_1_of f134_) (fn1 135 (E_message_small_2_of f135_) (fn1 138 (E_message_name_1_of f138_) (fn1 139 (E_message_name_2_of f139_) noFns)))))))))))))))) Tryz.f29.ntmps plan29 (bodyOf Tryz.f29) (args0 0 [(.pointer m1 : Value)]) h (konF Tryz.f29 K) := by kernel_rfl
def E_message_wrong_of (f : Y2) : List Value → Heap → YV → Prop
  | [v0], h, K => dec1 .ptr v0 fun (m1 : Option Addr) =>
  f m1 h (fun (r0 : Int) (h : Heap) => K (.int .i64 r0) h)
  | _, _, _ => False
abbrev E_message_wrong := E_message_wrong_of F_message_wrong
theorem E_message_wrong.right : IsRight Tryz.prog 29 E_message_wrong := by
  refine isRight fun vs K w hh => ?_
  match vs, hh with
  | [v0], hh =>
    unfold E_message_wrong E_message_wrong_of at hh
    replace hh := dec1_sound hh; obtain ⟨m1, rfl, hh⟩ := hh
    unfold F_message_wrong at hh
    exact calls_den (fn1_right ok32 E_message_table.right (fn1_right ok53 E_message_between.right (fn1_right ok61 E_message_table_5.right (fn1_right ok62 E_message_table_6.right (fn1_right ok68 E_message_table_10.right (fn1_right ok69 E_message_table_11.right (fn1_right ok87 E_message_table_24.right (fn1_right ok88 E_message_table_25.right (fn1_right ok122 E_message_number_1.right (fn1_right ok123 E_message_number_2.right (fn1_right ok126 E_message_both_1.right (fn1_right ok127 E_message_both_2.right (fn1_right ok134 E_message_small_1.right (fn1_right ok135 E_message_small_2.right (fn1_right ok138 E_message_name_1.right (fn1_right ok139 E_message_name_2.right noFns_right)))))))))))))))) plan29 _ w K Tryz.func29 (by kernel_rfl) (by kernel_rfl) (Eq.mp (F_message_wrong.eq F_message_table F_message_between F_message_table_5 F_message_table_6 F_message_table_10 F_message_table_11 F_message_table_24 F_message_table_25 F_message_number_1 F_message_number_2 F_message_both_1 F_message_both_2 F_message_small_1 F_message_small_2 F_message_name_1 F_message_name_2 m1 w.heap K) hh)
theorem ok29 : okFn Tryz.prog 29 = true := by kernel_rfl
def F_code_Sum.l1 (j9 : Int → Heap → Prop) : Int → Int → Heap → Prop :=
  wl [(5, .one (.int .u32)), (14, .one (.int .i64))] (fun (next10 : Int → Int → Heap → Prop) (n11 x12 : Int) (h13 : Heap) =>
  brr (decide (x12 < 4))
  (0 ≤ (1 : Int) ∧
  next10 (IntKind.u32.wrap (BitVec.ofInt IntKind.u32.bits (n11.fdiv (2 ^ min (1 : Int).toNat IntKind.u32.bits)) ^^^ BitVec.ofInt IntKind.u32.bits (IntKind.u32.wrap (BitVec.ofInt IntKind.u32.bits (IntKind.u32.wrap (0 - (IntKind.u32.wrap (BitVec.ofInt IntKind.u32.bits n11 &&& BitVec.ofInt IntKind.u32.bits 1).toNat))) &&& BitVec.ofInt IntKind.u32.bits 3988292384).toNat)).toNat) (IntKind.i64.wrap (x12 + 1)) h13)
  (j9 n11 h13))
def F_code_Sum.l2 (a2 : Addr) (j4 : Heap → Prop) : Int → Heap → Prop :=
  wl [(9, .one (.int .i64))] (fun (next5 : Int → Heap → Prop) (x6 : Int) (h7 : Heap) =>
  brr (decide (x6 < 16))
  (jn [] (fun  (h18 : Heap) =>
  next5 (IntKind.i64.wrap (x6 + 1)) h18) (fun (j8 : Heap → Prop) =>
  jn [(5, .one (.int .u32))] (fun (n14 : Int) (h15 : Heap) =>
  ixA 1 a2 16 x6 fun (a16 : Addr) =>
  st a16 [.int .u32 n14] h15 fun (h17 : Heap) =>
  j8 h17) (fun (j9 : Int → Heap → Prop) =>
  F_code_Sum.l1 j9 (IntKind.u32.wrap x6) 0 h7)))
  (j4 h7))
def F_code_Sum.l3 (b1 : Sl) (a2 : Addr) (j20 : Int → Heap → Prop) : Int → Int → Heap → Prop :=
  wl [(6, .one (.int .u32)), (30, .one (.int .i64))] (fun (next21 : Int → Int → Heap → Prop) (n22 x23 : Int) (h24 : Heap) =>
  brr (decide (x23 < ((b1.len : Nat) : Int)))
  (ixS 1 b1 x23 fun (a25 : Addr) =>
  ld [.int .u8] a25 h24 fun (v26 : Int) =>
  0 ≤ (4 : Int) ∧
  ixA 1 a2 16 (IntKind.u32.wrap (BitVec.ofInt IntKind.u32.bits (IntKind.u32.wrap (BitVec.ofInt IntKind.u32.bits n22 ^^^ BitVec.ofInt IntKind.u32.bits (IntKind.u32.wrap v26)).toNat) &&& BitVec.ofInt IntKind.u32.bits 15).toNat) fun (a27 : Addr) =>
  ld [.int .u32] a27 h24 fun (v28 : Int) =>
  0 ≤ (4 : Int) ∧
  ixA 1 a2 16 (IntKind.u32.wrap (BitVec.ofInt IntKind.u32.bits (IntKind.u32.wrap (BitVec.ofInt IntKind.u32.bits ((IntKind.u32.wrap (BitVec.ofInt IntKind.u32.bits n22 ^^^ BitVec.ofInt IntKind.u32.bits (IntKind.u32.wrap v26)).toNat).fdiv (2 ^ min (4 : Int).toNat IntKind.u32.bits)) ^^^ BitVec.ofInt IntKind.u32.bits v28).toNat) &&& BitVec.ofInt IntKind.u32.bits 15).toNat) fun (a29 : Addr) =>
  ld [.int .u32] a29 h24 fun (v30 : Int) =>
  next21 (IntKind.u32.wrap (BitVec.ofInt IntKind.u32.bits ((IntKind.u32.wrap (BitVec.ofInt IntKind.u32.bits ((IntKind.u32.wrap (BitVec.ofInt IntKind.u32.bits n22 ^^^ BitVec.ofInt IntKind.u32.bits (IntKind.u32.wrap v26)).toNat).fdiv (2 ^ min (4 : Int).toNat IntKind.u32.bits)) ^^^ BitVec.ofInt IntKind.u32.bits v28).toNat).fdiv (2 ^ min (4 : Int).toNat IntKind.u32.bits)) ^^^ BitVec.ofInt IntKind.u32.bits v30).toNat) (IntKind.i64.wrap (x23 + 1)) h24)
  (j20 n22 h24))
def F_code_Sum_of  (b1 : Sl) (h : Heap) (Q : Int → Heap → Prop) : Prop :=
  al 130 [.int .u32 0, .int .u32 0, .int .u32 0, .int .u32 0, .int .u32 0, .int .u32 0, .int .u32 0, .int .u32 0, .int .u32 0, .int .u32 0, .int .u32 0, .int .u32 0, .int .u32 0, .int .u32 0, .int .u32 0, .int .u32 0] h fun (a2 : Addr) (h3 : Heap) =>
  jn [] (fun  (h19 : Heap) =>
  jn [(6, .one (.int .u32))] (fun (n31 : Int) (h32 : Heap) =>
  Q (IntKind.u32.wrap (BitVec.ofInt IntKind.u32.bits (if IntKind.u32.signed then -1 else IntKind.u32.max) ^^^ BitVec.ofInt IntKind.u32.bits n31).toNat) h32) (fun (j20 : Int → Heap → Prop) =>
  F_code_Sum.l3 b1 a2 j20 4294967295 0 h19)) (fun (j4 : Heap → Prop) =>
  F_code_Sum.l2 a2 j4 0 h3)
def F_code_Sum (b1 : Sl) (h : Heap) (Q : Int → Heap → Prop) : Prop := F_code_Sum_of  b1 h Q
def plan34 : Plan := .s (.r [0]) (.s (.r [0, 3]) (.s (.s (.r [0, 3, 9]) (.bj [] [0, 3] (.l [(9, .one (.int .i64))] [0, 3] (.s (.r [0, 3, 9, 10]) (.s (.c .z .z) (.s (.bj [] [0, 3, 9] (.s (.r [0, 3, 4, 9]) (.s (.r [0, 3, 4, 5, 9]) (.s (.s (.r [0, 3, 4, 5, 9, 14]) (.bj [(5, .one (.int .u32))] [0, 3, 4, 9] (.l [(5, .one (.int .u32)), (14, .one (.int .i64))] [0, 3, 4, 9] (.s (.r [0, 3, 4, 5, 9, 14, 15]) (.s (.c .z .z) (.s (.b (.r [0, 3, 4, 5, 9, 14])) (.r [0, 3, 4, 5, 9, 14]))))))) (.r [0, 3, 9]))))) (.r [0, 3, 9]))))))) (.s (.r [0, 3, 6]) (.s (.s (.r [3, 6, 28, 29, 30]) (.bj [(6, .one (.int .u32))] [] (.l [(6, .one (.int .u32)), (30, .one (.int .i64))] [3, 28, 29] (.s (.r [3, 6, 28, 29, 30, 31]) (.s (.c .z .z) (.s (.b (.s (.r [3, 6, 8, 28, 29, 30]) (.s (.r [3, 6, 28, 29, 30]) (.s (.r [3, 6, 28, 29, 30]) (.r [3, 6, 28, 29, 30]))))) (.r [3, 6, 28, 29, 30]))))))) (.s (.r [2]) .z)))))
theorem F_code_Sum.eq  (b1 : Sl) (h : Heap) (K : YV) : F_code_Sum_of  b1 h (fun (r0 : Int) (h : Heap) => K (.int .u32 r0) h) =
    den Tryz.prog noFns Tryz.f34.ntmps plan34 (bodyOf Tryz.f34) (args0 0 [(.slice b1.ptr b1.len b1.cap : Value)]) h (konF Tryz.f34 K) := by kernel_rfl
def E_code_Sum_of (f : Y20) : List Value → Heap → YV → Prop
  | [v0], h, K => dec1 .sl v0 fun (b1 : Sl) =>
  f b1 h (fun (r0 : Int) (h : Heap) => K (.int .u32 r0) h)
  | _, _, _ => False
abbrev E_code_Sum := E_code_Sum_of F_code_Sum
theorem E_code_Sum.right : IsRight Tryz.prog 34 E_code_Sum := by
  refine isRight fun vs K w hh => ?_
  match vs, hh with
  | [v0], hh =>
    unfold E_code_Sum E_code_Sum_of at hh
    replace hh := dec1_sound hh; obtain ⟨b1, rfl, hh⟩ := hh
    unfold F_code_Sum at hh
    exact calls_den noFns_right plan34 _ w K Tryz.func34 (by kernel_rfl) (by kernel_rfl) (Eq.mp (F_code_Sum.eq  b1 w.heap K) hh)
theorem ok34 : okFn Tryz.prog 34 = true := by kernel_rfl
def F_message_number_3_of (f56_ f58_ f59_ f60_ : Y1) (f64_ : Y8) (f67_ f77_ f81_ f82_ f83_ : Y1) (Φ_ : Fns) (w1 m2 : Option Addr) (x3 : Addr) (h : Heap) (Q : Heap → Prop) : Prop :=
  ld [.fn] x3 h fun (v4 : Option FV) =>
  dyn1 .ptr Φ_ (Kd.enc .fn v4) [(.pointer m2 : Value)] h fun (r6 : Option Addr) (h5 : Heap) =>
  nn r6 fun (a7 : Addr) =>
  ld [.int .u64] a7 h5 fun (v8 : Int) =>
  f64_ w1 v8 h5 fun  (h9 : Heap) =>
  Q h9
def F_message_number_3 (w1 m2 : Option Addr) (x3 : Addr) (h : Heap) (Q : Heap → Prop) : Prop := F_message_number_3_of F_message_table_1 F_message_table_2 F_message_table_3 F_message_table_4 F_code_Writer_Var F_message_table_9 F_message_table_15 F_message_table_18 F_message_table_19 F_message_table_20 (fn1 56 E_message_table_1 (fn1 58 E_message_table_2 (fn1 59 E_message_table_3 (fn1 60 E_message_table_4 (fn1 64 E_code_Writer_Var (fn1 67 E_message_table_9 (fn1 77 E_message_table_15 (fn1 81 E_message_table_18 (fn1 82 E_message_table_19 (fn1 83 E_message_table_20 noFns)))))))))) w1 m2 x3 h Q
def plan124 : Plan := .r []
theorem F_message_number_3.eq (f56_ f58_ f59_ f60_ : Y1) (f64_ : Y8) (f67_ f77_ f81_ f82_ f83_ : Y1) (w1 m2 : Option Addr) (x3 : Addr) (h : Heap) (K : YV) : F_message_number_3_of f56_ f58_ f59_ f60_ f64_ f67_ f77_ f81_ f82_ f83_ (fn1 56 (E_message_table_1_of f56_) (fn1 58 (E_message_table_2_of f58_) (fn1 59 (E_message_table_3_of f59_) (fn1 60 (E_message_table_4_of f60_) (fn1 64 (E_code_Writer_Var_of f64_) (fn1 67 (E_message_table_9_of f67_) (fn1 77 (E_message_table_15_of f77_) (fn1 81 (E_message_table_18_of f81_) (fn1 82 (E_message_table_19_of f82_) (fn1 83 (E_message_table_20_of f83_) noFns)))))))))) w1 m2 x3 h (fun  (h : Heap) => K (.tuple #[]) h) =
    den Tryz.prog (fn1 56 (E_message_table_1_of f56_) (fn1 58 (E_message_table_2_of f58_) (fn1 59 (E_message_table_3_of f59_) (fn1 60 (E_message_table_4_of f60_) (fn1 64 (E_code_Writer_Var_of f64_) (fn1 67 (E_message_table_9_of f67_) (fn1 77 (E_message_table_15_of f77_) (fn1 81 (E_message_table_18_of f81_) (fn1 82 (E_message_table_19_of f82_) (fn1 83 (E_message_table_20_of f83_) noFns)))))))))) Tryz.f124.ntmps plan124 (bodyOf Tryz.f124) (args0 0 [(.pointer w1 : Value), (.pointer m2 : Value), (.pointer (some x3) : Value)]) h (konF Tryz.f124 K) := by kernel_rfl
def E_message_number_3_of (f : Y6) : List Value → Heap → YV → Prop
  | [v0, v1, v2], h, K => dec1 .ptr v0 fun (w1 : Option Addr) =>
  dec1 .ptr v1 fun (m2 : Option Addr) =>
  dec1 .addr v2 fun (x3 : Addr) =>
  f w1 m2 x3 h (fun  (h : Heap) => K (.tuple #[]) h)
  | _, _, _ => False
abbrev E_message_number_3 := E_message_number_3_of F_message_number_3
theorem E_message_number_3.at (f : Y6) (w1 m2 : Option Addr) (x3 : Addr) (h : Heap) (K : YV) : E_message_number_3_of f [.pointer w1, .pointer m2, .pointer (some x3)] h K = f w1 m2 x3 h (fun  (h : Heap) => K (.tuple #[]) h) := rfl
theorem E_message_number_3.right : IsRight Tryz.prog 124 E_message_number_3 := by
  refine isRight fun vs K w hh => ?_
  match vs, hh with
  | [v0, v1, v2], hh =>
    unfold E_message_number_3 E_message_number_3_of at hh
    replace hh := dec1_sound hh; obtain ⟨w1, rfl, hh⟩ := hh
    replace hh := dec1_sound hh; obtain ⟨m2, rfl, hh⟩ := hh
    replace hh := dec1_sound hh; obtain ⟨x3, rfl, hh⟩ := hh
    unfold F_message_number_3 at hh
    exact calls_den (fn1_right ok56 E_message_table_1.right (fn1_right ok58 E_message_table_2.right (fn1_right ok59 E_message_table_3.right (fn1_right ok60 E_message_table_4.right (fn1_right ok64 E_code_Writer_Var.right (fn1_right ok67 E_message_table_9.right (fn1_right ok77 E_message_table_15.right (fn1_right ok81 E_message_table_18.right (fn1_right ok82 E_message_table_19.right (fn1_right ok83 E_message_table_20.right noFns_right)))))))))) plan124 _ w K Tryz.func124 (by kernel_rfl) (by kernel_rfl) (Eq.mp (F_message_number_3.eq F_message_table_1 F_message_table_2 F_message_table_3 F_message_table_4 F_code_Writer_Var F_message_table_9 F_message_table_15 F_message_table_18 F_message_table_19 F_message_table_20 w1 m2 x3 w.heap K) hh)
theorem ok124 : okFn Tryz.prog 124 = true := by kernel_rfl
def F_message_small_3_of (f31_ : Y8) (f76_ f84_ f85_ f86_ : Y1) (Φ_ : Fns) (w1 m2 : Option Addr) (x3 : Addr) (h : Heap) (Q : Heap → Prop) : Prop :=
  ld [.fn] x3 h fun (v4 : Option FV) =>
  dyn1 .ptr Φ_ (Kd.enc .fn v4) [(.pointer m2 : Value)] h fun (r6 : Option Addr) (h5 : Heap) =>
  nn r6 fun (a7 : Addr) =>
  ld [.int .i64] a7 h5 fun (v8 : Int) =>
  f31_ w1 (IntKind.u8.wrap v8) h5 fun  (h9 : Heap) =>
  Q h9
def F_message_small_3 (w1 m2 : Option Addr) (x3 : Addr) (h : Heap) (Q : Heap → Prop) : Prop := F_message_small_3_of F_code_Writer_U8 F_message_table_14 F_message_table_21 F_message_table_22 F_message_table_23 (fn1 31 E_code_Writer_U8 (fn1 76 E_message_table_14 (fn1 84 E_message_table_21 (fn1 85 E_message_table_22 (fn1 86 E_message_table_23 noFns))))) w1 m2 x3 h Q
def plan136 : Plan := .r []
theorem F_message_small_3.eq (f31_ : Y8) (f76_ f84_ f85_ f86_ : Y1) (w1 m2 : Option Addr) (x3 : Addr) (h : Heap) (K : YV) : F_message_small_3_of f31_ f76_ f84_ f85_ f86_ (fn1 31 (E_code_Writer_U8_of f31_) (fn1 76 (E_message_table_14_of f76_) (fn1 84 (E_message_table_21_of f84_) (fn1 85 (E_message_table_22_of f85_) (fn1 86 (E_message_table_23_of f86_) noFns))))) w1 m2 x3 h (fun  (h : Heap) => K (.tuple #[]) h) =
    den Tryz.prog (fn1 31 (E_code_Writer_U8_of f31_) (fn1 76 (E_message_table_14_of f76_) (fn1 84 (E_message_table_21_of f84_) (fn1 85 (E_message_table_22_of f85_) (fn1 86 (E_message_table_23_of f86_) noFns))))) Tryz.f136.ntmps plan136 (bodyOf Tryz.f136) (args0 0 [(.pointer w1 : Value), (.pointer m2 : Value), (.pointer (some x3) : Value)]) h (konF Tryz.f136 K) := by kernel_rfl
def E_message_small_3_of (f : Y6) : List Value → Heap → YV → Prop
  | [v0, v1, v2], h, K => dec1 .ptr v0 fun (w1 : Option Addr) =>
  dec1 .ptr v1 fun (m2 : Option Addr) =>
  dec1 .addr v2 fun (x3 : Addr) =>
  f w1 m2 x3 h (fun  (h : Heap) => K (.tuple #[]) h)
  | _, _, _ => False
abbrev E_message_small_3 := E_message_small_3_of F_message_small_3
theorem E_message_small_3.at (f : Y6) (w1 m2 : Option Addr) (x3 : Addr) (h : Heap) (K : YV) : E_message_small_3_of f [.pointer w1, .pointer m2, .pointer (some x3)] h K = f w1 m2 x3 h (fun  (h : Heap) => K (.tuple #[]) h) := rfl
theorem E_message_small_3.right : IsRight Tryz.prog 136 E_message_small_3 := by
  refine isRight fun vs K w hh => ?_
  match vs, hh with
  | [v0, v1, v2], hh =>
    unfold E_message_small_3 E_message_small_3_of at hh
    replace hh := dec1_sound hh; obtain ⟨w1, rfl, hh⟩ := hh
    replace hh := dec1_sound hh; obtain ⟨m2, rfl, hh⟩ := hh
    replace hh := dec1_sound hh; obtain ⟨x3, rfl, hh⟩ := hh
    unfold F_message_small_3 at hh
    exact calls_den (fn1_right ok31 E_code_Writer_U8.right (fn1_right ok76 E_message_table_14.right (fn1_right ok84 E_message_table_21.right (fn1_right ok85 E_message_table_22.right (fn1_right ok86 E_message_table_23.right noFns_right))))) plan136 _ w K Tryz.func136 (by kernel_rfl) (by kernel_rfl) (Eq.mp (F_message_small_3.eq F_code_Writer_U8 F_message_table_14 F_message_table_21 F_message_table_22 F_message_table_23 w1 m2 x3 w.heap K) hh)
theorem ok136 : okFn Tryz.prog 136 = true := by kernel_rfl
def F_message_name_3_of (f71_ : Y16) (f79_ f80_ : Y1) (Φ_ : Fns) (w1 m2 : Option Addr) (x3 : Addr) (h : Heap) (Q : Heap → Prop) : Prop :=
  ld [.fn] x3 h fun (v4 : Option FV) =>
  dyn1 .ptr Φ_ (Kd.enc .fn v4) [(.pointer m2 : Value)] h fun (r6 : Option Addr) (h5 : Heap) =>
  nn r6 fun (a7 : Addr) =>
  ld [.str] a7 h5 fun (v8 : ByteArray) =>
  s2b 5 v8 h5 fun (s9 : Sl) (h10 : Heap) =>
  f71_ w1 s9 h10 fun  (h11 : Heap) =>
  Q h11
def F_message_name_3 (w1 m2 : Option Addr) (x3 : Addr) (h : Heap) (Q : Heap → Prop) : Prop := F_message_name_3_of F_code_Writer_Bytes F_message_table_16 F_message_table_17 (fn1 71 E_code_Writer_Bytes (fn1 79 E_message_table_16 (fn1 80 E_message_table_17 noFns))) w1 m2 x3 h Q
def plan140 : Plan := .r []
theorem F_message_name_3.eq (f71_ : Y16) (f79_ f80_ : Y1) (w1 m2 : Option Addr) (x3 : Addr) (h : Heap) (K : YV) : F_message_name_3_of f71_ f79_ f80_ (fn1 71 (E_code_Writer_Bytes_of f71_) (fn1 79 (E_message_table_16_of f79_) (fn1 80 (E_message_table_17_of f80_) noFns))) w1 m2 x3 h (fun  (h : Heap) => K (.tuple #[]) h) =
    den Tryz.prog (fn1 71 (E_code_Writer_Bytes_of f71_) (fn1 79 (E_message_table_16_of f79_) (fn1 80 (E_message_table_17_of f80_) noFns))) Tryz.f140.ntmps plan140 (bodyOf Tryz.f140) (args0 0 [(.pointer w1 : Value), (.pointer m2 : Value), (.pointer (some x3) : Value)]) h (konF Tryz.f140 K) := by kernel_rfl
def E_message_name_3_of (f : Y6) : List Value → Heap → YV → Prop
  | [v0, v1, v2], h, K => dec1 .ptr v0 fun (w1 : Option Addr) =>
  dec1 .ptr v1 fun (m2 : Option Addr) =>
  dec1 .addr v2 fun (x3 : Addr) =>
  f w1 m2 x3 h (fun  (h : Heap) => K (.tuple #[]) h)
  | _, _, _ => False
abbrev E_message_name_3 := E_message_name_3_of F_message_name_3
theorem E_message_name_3.at (f : Y6) (w1 m2 : Option Addr) (x3 : Addr) (h : Heap) (K : YV) : E_message_name_3_of f [.pointer w1, .pointer m2, .pointer (some x3)] h K = f w1 m2 x3 h (fun  (h : Heap) => K (.tuple #[]) h) := rfl
theorem E_message_name_3.right : IsRight Tryz.prog 140 E_message_name_3 := by
  refine isRight fun vs K w hh => ?_
  match vs, hh with
  | [v0, v1, v2], hh =>
    unfold E_message_name_3 E_message_name_3_of at hh
    replace hh := dec1_sound hh; obtain ⟨w1, rfl, hh⟩ := hh
    replace hh := dec1_sound hh; obtain ⟨m2, rfl, hh⟩ := hh
    replace hh := dec1_sound hh; obtain ⟨x3, rfl, hh⟩ := hh
    unfold F_message_name_3 at hh
    exact calls_den (fn1_right ok71 E_code_Writer_Bytes.right (fn1_right ok79 E_message_table_16.right (fn1_right ok80 E_message_table_17.right noFns_right))) plan140 _ w K Tryz.func140 (by kernel_rfl) (by kernel_rfl) (Eq.mp (F_message_name_3.eq F_code_Writer_Bytes F_message_table_16 F_message_table_17 w1 m2 x3 w.heap K) hh)
theorem ok140 : okFn Tryz.prog 140 = true := by kernel_rfl
def F_message_both_3_of (f63_ f70_ f89_ : Y4) (f124_ f136_ f140_ : Y6) (Φ_ : Fns) (w1 m2 : Option Addr) (x3 x4 : Addr) (h : Heap) (Q : Heap → Prop) : Prop :=
  ld [.fn] (x3.add 2) h fun (v5 : Option FV) =>
  dyn0 Φ_ (Kd.enc .fn v5) [(.pointer w1 : Value), (.pointer m2 : Value)] h fun (h6 : Heap) =>
  ld [.fn] (x4.add 2) h6 fun (v7 : Option FV) =>
  dyn0 Φ_ (Kd.enc .fn v7) [(.pointer w1 : Value), (.pointer m2 : Value)] h6 fun (h8 : Heap) =>
  Q h8
def F_message_both_3 (w1 m2 : Option Addr) (x3 x4 : Addr) (h : Heap) (Q : Heap → Prop) : Prop := F_message_both_3_of F_message_table_7 F_message_table_12 F_message_table_26 F_message_number_3 F_message_small_3 F_message_name_3 (fn1 63 E_message_table_7 (fn1 70 E_message_table_12 (fn1 89 E_message_table_26 (fn1 124 E_message_number_3 (fn1 136 E_message_small_3 (fn1 140 E_message_name_3 noFns)))))) w1 m2 x3 x4 h Q
def plan128 : Plan := .s (.r [0, 1, 3]) (.r [])
theorem F_message_both_3.eq (f63_ f70_ f89_ : Y4) (f124_ f136_ f140_ : Y6) (w1 m2 : Option Addr) (x3 x4 : Addr) (h : Heap) (K : YV) : F_message_both_3_of f63_ f70_ f89_ f124_ f136_ f140_ (fn1 63 (E_message_table_7_of f63_) (fn1 70 (E_message_table_12_of f70_) (fn1 89 (E_message_table_26_of f89_) (fn1 124 (E_message_number_3_of f124_) (fn1 136 (E_message_small_3_of f136_) (fn1 140 (E_message_name_3_of f140_) noFns)))))) w1 m2 x3 x4 h (fun  (h : Heap) => K (.tuple #[]) h) =
    den Tryz.prog (fn1 63 (E_message_table_7_of f63_) (fn1 70 (E_message_table_12_of f70_) (fn1 89 (E_message_table_26_of f89_) (fn1 124 (E_message_number_3_of f124_) (fn1 136 (E_message_small_3_of f136_) (fn1 140 (E_message_name_3_of f140_) noFns)))))) Tryz.f128.ntmps plan128 (bodyOf Tryz.f128) (args0 0 [(.pointer w1 : Value), (.pointer m2 : Value), (.pointer (some x3) : Value), (.pointer (some x4) : Value)]) h (konF Tryz.f128 K) := by kernel_rfl
def E_message_both_3_of (f : Y13) : List Value → Heap → YV → Prop
  | [v0, v1, v2, v3], h, K => dec1 .ptr v0 fun (w1 : Option Addr) =>
  dec1 .ptr v1 fun (m2 : Option Addr) =>
  dec1 .addr v2 fun (x3 : Addr) =>
  dec1 .addr v3 fun (x4 : Addr) =>
  f w1 m2 x3 x4 h (fun  (h : Heap) => K (.tuple #[]) h)
  | _, _, _ => False
abbrev E_message_both_3 := E_message_both_3_of F_message_both_3
theorem E_message_both_3.at (f : Y13) (w1 m2 : Option Addr) (x3 x4 : Addr) (h : Heap) (K : YV) : E_message_both_3_of f [.pointer w1, .pointer m2, .pointer (some x3), .pointer (some x4)] h K = f w1 m2 x3 x4 h (fun  (h : Heap) => K (.tuple #[]) h) := rfl
theorem E_message_both_3.right : IsRight Tryz.prog 128 E_message_both_3 := by
  refine isRight fun vs K w hh => ?_
  match vs, hh with
  | [v0, v1, v2, v3], hh =>
    unfold E_message_both_3 E_message_both_3_of at hh
    replace hh := dec1_sound hh; obtain ⟨w1, rfl, hh⟩ := hh
    replace hh := dec1_sound hh; obtain ⟨m2, rfl, hh⟩ := hh
    replace hh := dec1_sound hh; obtain ⟨x3, rfl, hh⟩ := hh
    replace hh := dec1_sound hh; obtain ⟨x4, rfl, hh⟩ := hh
    unfold F_message_both_3 at hh
    exact calls_den (fn1_right ok63 E_message_table_7.right (fn1_right ok70 E_message_table_12.right (fn1_right ok89 E_message_table_26.right (fn1_right ok124 E_message_number_3.right (fn1_right ok136 E_message_small_3.right (fn1_right ok140 E_message_name_3.right noFns_right)))))) plan128 _ w K Tryz.func128 (by kernel_rfl) (by kernel_rfl) (Eq.mp (F_message_both_3.eq F_message_table_7 F_message_table_12 F_message_table_26 F_message_number_3 F_message_small_3 F_message_name_3 w1 m2 x3 x4 w.heap K) hh)
theorem ok128 : okFn Tryz.prog 128 = true := by kernel_rfl
def F_message_Encode.l1 (f31_ : Y8) (r27 : Option Addr) (a33 : Addr) (j35 : Heap → Prop) : Int → Heap → Prop :=
  wl [(30, .one (.int .i64))] (fun (next36 : Int → Heap → Prop) (x37 : Int) (h38 : Heap) =>
  brr (decide (x37 < ((4 : Nat) : Int)))
  (ixS 1 ⟨(some a33), 4, 4⟩ x37 fun (a39 : Addr) =>
  ld [.int .i64] a39 h38 fun (v40 : Int) =>
  f31_ r27 (IntKind.u8.wrap v40) h38 fun  (h41 : Heap) =>
  next36 (IntKind.i64.wrap (x37 + 1)) h41)
  (j35 h38))
def F_message_Encode.l2 (Φ_ : Fns) (a23 : Addr) (r27 : Option Addr) (a108 : Addr) (v113 : Sl) (j114 : Heap → Prop) : Int → Heap → Prop :=
  wl [(46, .one (.int .i64))] (fun (next115 : Int → Heap → Prop) (x116 : Int) (h117 : Heap) =>
  brr (decide (x116 < ((v113.len : Nat) : Int)))
  (ixS 1 v113 x116 fun (a118 : Addr) =>
  ld [.int .i64] a118 h117 fun (v119 : Int) =>
  ixA 4 a108 16 v119 fun (a120 : Addr) =>
  ld [.fn] (a120.add 2) h117 fun (v121 : Option FV) =>
  dyn0 Φ_ (Kd.enc .fn v121) [(.pointer r27 : Value), (.pointer (some a23) : Value)] h117 fun (h122 : Heap) =>
  next115 (IntKind.i64.wrap (x116 + 1)) h122)
  (j114 h117))
def F_message_Encode_of (f29_ : Y2) (f30_ : Y26) (f31_ : Y8) (f32_ : Y19) (f33_ : Y8) (f34_ : Y20) (f35_ : Y18) (f63_ f70_ f89_ : Y4) (f124_ : Y6) (f128_ : Y13) (f136_ f140_ : Y6) (Φ_ : Fns) (m1 m2 m3 m4 m5 m6 m7 m8 m9 m10 : Int) (m11 : Sl) (m12 m13 : Int) (m14 m15 : ByteArray) (m16 m17 m18 m19 m20 m21 m22 : Int) (h : Heap) (Q : Sl → Int → Heap → Prop) : Prop :=
  al 52 [.int .i64 m1, .int .i64 m2, .int .i64 m3, .int .i64 m4, .int .u64 m5, .int .u64 m6, .int .u64 m7, .int .u64 m8, .int .i64 m9, .int .u64 m10, .slice m11.ptr m11.len m11.cap, .int .i64 m12, .int .u64 m13, .string m14, .string m15, .int .u64 m16, .int .u64 m17, .int .u64 m18, .int .i64 m19, .int .i64 m20, .int .i64 m21, .int .i64 m22] h fun (a23 : Addr) (h24 : Heap) =>
  f29_ (some a23) h24 fun (r25 : Int) (h26 : Heap) =>
  brr (r25 != 0)
  (Q (⟨none, 0, 0⟩ : Sl) r25 h26)
  (f30_ h26 fun (r27 : Option Addr) (h28 : Heap) =>
  ld [.int .i64] ((a23.add 0).add 0) h28 fun (v29 : Int) =>
  ld [.int .i64] ((a23.add 0).add 1) h28 fun (v30 : Int) =>
  ld [.int .i64] ((a23.add 0).add 2) h28 fun (v31 : Int) =>
  ld [.int .i64] ((a23.add 0).add 3) h28 fun (v32 : Int) =>
  al 3 [.int .i64 v29, .int .i64 v30, .int .i64 v31, .int .i64 v32] h28 fun (a33 : Addr) (h34 : Heap) =>
  jn [] (fun  (h42 : Heap) =>
  f32_ h42 fun (r43 r44 r45 r46 r47 r48 r49 r50 r51 r52 r53 r54 r55 r56 r57 r58 r59 r60 r61 r62 r63 r64 r65 r66 r67 r68 r69 r70 r71 r72 r73 r74 r75 r76 r77 r78 r79 r80 r81 r82 r83 r84 r85 r86 r87 r88 r89 r90 r91 r92 r93 r94 r95 r96 r97 r98 r99 r100 r101 r102 r103 r104 r105 r106 : Option FV) (h107 : Heap) =>
  al 90 (.nilFunc :: .nilFunc :: .nilFunc :: .nilFunc :: .nilFunc :: .nilFunc :: .nilFunc :: .nilFunc :: .nilFunc :: .nilFunc :: .nilFunc :: .nilFunc :: .nilFunc :: .nilFunc :: .nilFunc :: .nilFunc :: .nilFunc :: .nilFunc :: .nilFunc :: .nilFunc :: .nilFunc :: .nilFunc :: .nilFunc :: .nilFunc :: .nilFunc :: .nilFunc :: .nilFunc :: .nilFunc :: .nilFunc :: .nilFunc :: .nilFunc :: .nilFunc :: .nilFunc :: .nilFunc :: .nilFunc :: .nilFunc :: .nilFunc :: .nilFunc :: .nilFunc :: .nilFunc :: .nilFunc :: .nilFunc :: .nilFunc :: .nilFunc :: .nilFunc :: .nilFunc :: .nilFunc :: .nilFunc :: .nilFunc :: .nilFunc :: .nilFunc :: .nilFunc :: .nilFunc :: .nilFunc :: .nilFunc :: .nilFunc :: .nilFunc :: .nilFunc :: .nilFunc :: .nilFunc :: .nilFunc :: .nilFunc :: .nilFunc :: .nilFunc :: []) h107 fun (a108 : Addr) (h109 : Heap) =>
  st a108 ((Kd.enc .fn r43) :: (Kd.enc .fn r44) :: (Kd.enc .fn r45) :: (Kd.enc .fn r46) :: (Kd.enc .fn r47) :: (Kd.enc .fn r48) :: (Kd.enc .fn r49) :: (Kd.enc .fn r50) :: (Kd.enc .fn r51) :: (Kd.enc .fn r52) :: (Kd.enc .fn r53) :: (Kd.enc .fn r54) :: (Kd.enc .fn r55) :: (Kd.enc .fn r56) :: (Kd.enc .fn r57) :: (Kd.enc .fn r58) :: (Kd.enc .fn r59) :: (Kd.enc .fn r60) :: (Kd.enc .fn r61) :: (Kd.enc .fn r62) :: (Kd.enc .fn r63) :: (Kd.enc .fn r64) :: (Kd.enc .fn r65) :: (Kd.enc .fn r66) :: (Kd.enc .fn r67) :: (Kd.enc .fn r68) :: (Kd.enc .fn r69) :: (Kd.enc .fn r70) :: (Kd.enc .fn r71) :: (Kd.enc .fn r72) :: (Kd.enc .fn r73) :: (Kd.enc .fn r74) :: (Kd.enc .fn r75) :: (Kd.enc .fn r76) :: (Kd.enc .fn r77) :: (Kd.enc .fn r78) :: (Kd.enc .fn r79) :: (Kd.enc .fn r80) :: (Kd.enc .fn r81) :: (Kd.enc .fn r82) :: (Kd.enc .fn r83) :: (Kd.enc .fn r84) :: (Kd.enc .fn r85) :: (Kd.enc .fn r86) :: (Kd.enc .fn r87) :: (Kd.enc .fn r88) :: (Kd.enc .fn r89) :: (Kd.enc .fn r90) :: (Kd.enc .fn r91) :: (Kd.enc .fn r92) :: (Kd.enc .fn r93) :: (Kd.enc .fn r94) :: (Kd.enc .fn r95) :: (Kd.enc .fn r96) :: (Kd.enc .fn r97) :: (Kd.enc .fn r98) :: (Kd.enc .fn r99) :: (Kd.enc .fn r100) :: (Kd.enc .fn r101) :: (Kd.enc .fn r102) :: (Kd.enc .fn r103) :: (Kd.enc .fn r104) :: (Kd.enc .fn r105) :: (Kd.enc .fn r106) :: []) h109 fun (h110 : Heap) =>
  ld [.int .i64] ((a23.add 0).add 0) h110 fun (v111 : Int) =>
  ixA 1 (Addr.mk 0 0 none) 12 v111 fun (a112 : Addr) =>
  ld [.sl] a112 h110 fun (v113 : Sl) =>
  jn [] (fun  (h123 : Heap) =>
  f35_ r27 h123 fun (r124 : Sl) (h125 : Heap) =>
  f34_ r124 h125 fun (r126 : Int) (h127 : Heap) =>
  f33_ r27 r126 h127 fun  (h128 : Heap) =>
  f35_ r27 h128 fun (r129 : Sl) (h130 : Heap) =>
  Q r129 0 h130) (fun (j114 : Heap → Prop) =>
  F_message_Encode.l2 Φ_ a23 r27 a108 v113 j114 0 h110)) (fun (j35 : Heap → Prop) =>
  F_message_Encode.l1 f31_ r27 a33 j35 0 h34))
def F_message_Encode (m1 m2 m3 m4 m5 m6 m7 m8 m9 m10 : Int) (m11 : Sl) (m12 m13 : Int) (m14 m15 : ByteArray) (m16 m17 m18 m19 m20 m21 m22 : Int) (h : Heap) (Q : Sl → Int → Heap → Prop) : Prop := F_message_Encode_of F_message_wrong F_code_New F_code_Writer_U8 F_message_table F_code_Writer_U32 F_code_Sum F_code_Writer_Out F_message_table_7 F_message_table_12 F_message_table_26 F_message_number_3 F_message_both_3 F_message_small_3 F_message_name_3 (fn1 29 E_message_wrong (fn1 30 E_code_New (fn1 31 E_code_Writer_U8 (fn1 32 E_message_table (fn1 33 E_code_Writer_U32 (fn1 34 E_code_Sum (fn1 35 E_code_Writer_Out (fn1 63 E_message_table_7 (fn1 70 E_message_table_12 (fn1 89 E_message_table_26 (fn1 124 E_message_number_3 (fn1 128 E_message_both_3 (fn1 136 E_message_small_3 (fn1 140 E_message_name_3 noFns)))))))))))))) m1 m2 m3 m4 m5 m6 m7 m8 m9 m10 m11 m12 m13 m14 m15 m16 m17 m18 m19 m20 m21 m22 h Q
def plan9 : Plan := .s (.r [1]) (.s (.s (.r [1, 4]) (.s (.r [1, 4, 13]) (.c (.s (.r [2, 3]) .z) .z))) (.s (.r [1, 5]) (.s (.s (.r [1, 5, 28, 29, 30]) (.bj [] [1, 5] (.l [(30, .one (.int .i64))] [1, 5, 28, 29] (.s (.r [1, 5, 28, 29, 30, 31]) (.s (.c .z .z) (.s (.b (.s (.r [1, 5, 7, 28, 29, 30]) (.r [1, 5, 28, 29, 30]))) (.r [1, 5, 28, 29, 30]))))))) (.s (.r [1, 5, 8]) (.s (.s (.r [1, 5, 8, 44, 45, 46]) (.bj [] [5] (.l [(46, .one (.int .i64))] [1, 5, 8, 44, 45] (.s (.r [1, 5, 8, 44, 45, 46, 47]) (.s (.c .z .z) (.s (.b (.s (.r [1, 5, 8, 10, 44, 45, 46]) (.r [1, 5, 8, 44, 45, 46]))) (.r [1, 5, 8, 44, 45, 46]))))))) (.s (.r [5]) (.s (.r [2, 3]) .z)))))))
theorem F_message_Encode.eq (f29_ : Y2) (f30_ : Y26) (f31_ : Y8) (f32_ : Y19) (f33_ : Y8) (f34_ : Y20) (f35_ : Y18) (f63_ f70_ f89_ : Y4) (f124_ : Y6) (f128_ : Y13) (f136_ f140_ : Y6) (m1 m2 m3 m4 m5 m6 m7 m8 m9 m10 : Int) (m11 : Sl) (m12 m13 : Int) (m14 m15 : ByteArray) (m16 m17 m18 m19 m20 m21 m22 : Int) (h : Heap) (K : YV) : F_message_Encode_of f29_ f30_ f31_ f32_ f33_ f34_ f35_ f63_ f70_ f89_ f124_ f128_ f136_ f140_ (fn1 29 (E_message_wrong_of f29_) (fn1 30 (E_code_New_of f30_) (fn1 31 (E_code_Writer_U8_of f31_) (fn1 32 (E_message_table_of f32_) (fn1 33 (E_code_Writer_U32_of f33_) (fn1 34 (E_code_Sum_of f34_) (fn1 35 (E_code_Writer_Out_of f35_) (fn1 63 (E_message_table_7_of f63_) (fn1 70 (E_message_table_12_of f70_) (fn1 89 (E_message_table_26_of f89_) (fn1 124 (E_message_number_3_of f124_) (fn1 128 (E_message_both_3_of f128_) (fn1 136 (E_message_small_3_of f136_) (fn1 140 (E_message_name_3_of f140_) noFns)))))))))))))) m1 m2 m3 m4 m5 m6 m7 m8 m9 m10 m11 m12 m13 m14 m15 m16 m17 m18 m19 m20 m21 m22 h (fun (r0 : Sl) (r1 : Int) (h : Heap) => K (.tuple #[.slice r0.ptr r0.len r0.cap, .int .i64 r1]) h) =
    den Tryz.prog (fn1 29 (E_message_wrong_of f29_) (fn1 30 (E_code_New_of f30_) (fn1 31 (E_code_Writer_U8_of f31_) (fn1 32 (E_message_table_of f32_) (fn1 33 (E_code_Writer_U32_of f33_) (fn1 34 (E_code_Sum_of f34_) (fn1 35 (E_code_Writer_Out_of f35_) (fn1 63 (E_message_table_7_of f63_) (fn1 70 (E_message_table_12_of f70_) (fn1 89 (E_message_table_26_of f89_) (fn1 124 (E_message_number_3_of f124_) (fn1 128 (E_message_both_3_of f128_) (fn1 136 (E_message_small_3_of f136_) (fn1 140 (E_message_name_3_of f140_) noFns)))))))))))))) Tryz.f9.ntmps plan9 (bodyOf Tryz.f9) (args0 0 [(.agg #[.int .i64 m1, .int .i64 m2, .int .i64 m3, .int .i64 m4, .int .u64 m5, .int .u64 m6, .int .u64 m7, .int .u64 m8, .int .i64 m9, .int .u64 m10, .slice m11.ptr m11.len m11.cap, .int .i64 m12, .int .u64 m13, .string m14, .string m15, .int .u64 m16, .int .u64 m17, .int .u64 m18, .int .i64 m19, .int .i64 m20, .int .i64 m21, .int .i64 m22] : Value)]) h (konF Tryz.f9 K) := by kernel_rfl
def E_message_Encode_of (f : Y21) : List Value → Heap → YV → Prop
  | [v0], h, K => vAgg v0 fun cs0 => decs K22 cs0.toList fun (m1 m2 m3 m4 m5 m6 m7 m8 m9 m10 : Int) (m11 : Sl) (m12 m13 : Int) (m14 m15 : ByteArray) (m16 m17 m18 m19 m20 m21 m22 : Int) =>
  f m1 m2 m3 m4 m5 m6 m7 m8 m9 m10 m11 m12 m13 m14 m15 m16 m17 m18 m19 m20 m21 m22 h (fun (r0 : Sl) (r1 : Int) (h : Heap) => K (.tuple #[.slice r0.ptr r0.len r0.cap, .int .i64 r1]) h)
  | _, _, _ => False
abbrev E_message_Encode := E_message_Encode_of F_message_Encode
theorem E_message_Encode.right : IsRight Tryz.prog 9 E_message_Encode := by
  refine isRight fun vs K w hh => ?_
  match vs, hh with
  | [v0], hh =>
    unfold E_message_Encode E_message_Encode_of at hh
    replace hh := vAgg_sound hh; obtain ⟨cs0, rfl, hh⟩ := hh
    replace hh := decs_cons hh; obtain ⟨m1, l0_0, e0_0, hh⟩ := hh
    replace hh := decs_cons hh; obtain ⟨m2, l0_1, e0_1, hh⟩ := hh
    replace hh := decs_cons hh; obtain ⟨m3, l0_2, e0_2, hh⟩ := hh
    replace hh := decs_cons hh; obtain ⟨m4, l0_3, e0_3, hh⟩ := hh
    replace hh := decs_cons hh; obtain ⟨m5, l0_4, e0_4, hh⟩ := hh
    replace hh := decs_cons hh; obtain ⟨m6, l0_5, e0_5, hh⟩ := hh
    replace hh := decs_cons hh; obtain ⟨m7, l0_6, e0_6, hh⟩ := hh
    replace hh := decs_cons hh; obtain ⟨m8, l0_7, e0_7, hh⟩ := hh
    replace hh := decs_cons hh; obtain ⟨m9, l0_8, e0_8, hh⟩ := hh
    replace hh := decs_cons hh; obtain ⟨m10, l0_9, e0_9, hh⟩ := hh
    replace hh := decs_cons hh; obtain ⟨m11, l0_10, e0_10, hh⟩ := hh
    replace hh := decs_cons hh; obtain ⟨m12, l0_11, e0_11, hh⟩ := hh
    replace hh := decs_cons hh; obtain ⟨m13, l0_12, e0_12, hh⟩ := hh
    replace hh := decs_cons hh; obtain ⟨m14, l0_13, e0_13, hh⟩ := hh
    replace hh := decs_cons hh; obtain ⟨m15, l0_14, e0_14, hh⟩ := hh
    replace hh := decs_cons hh; obtain ⟨m16, l0_15, e0_15, hh⟩ := hh
    replace hh := decs_cons hh; obtain ⟨m17, l0_16, e0_16, hh⟩ := hh
    replace hh := decs_cons hh; obtain ⟨m18, l0_17, e0_17, hh⟩ := hh
    replace hh := decs_cons hh; obtain ⟨m19, l0_18, e0_18, hh⟩ := hh
    replace hh := decs_cons hh; obtain ⟨m20, l0_19, e0_19, hh⟩ := hh
    replace hh := decs_cons hh; obtain ⟨m21, l0_20, e0_20, hh⟩ := hh
    replace hh := decs_cons hh; obtain ⟨m22, l0_21, e0_21, hh⟩ := hh
    replace hh := decs_nil hh; obtain ⟨rfl, hh⟩ := hh
    subst e0_21
    subst e0_20
    subst e0_19
    subst e0_18
    subst e0_17
    subst e0_16
    subst e0_15
    subst e0_14
    subst e0_13
    subst e0_12
    subst e0_11
    subst e0_10
    subst e0_9
    subst e0_8
    subst e0_7
    subst e0_6
    subst e0_5
    subst e0_4
    subst e0_3
    subst e0_2
    subst e0_1
    have ec0 := toArray_eq e0_0
    subst ec0
    unfold F_message_Encode at hh
    exact calls_den (fn1_right ok29 E_message_wrong.right (fn1_right ok30 E_code_New.right (fn1_right ok31 E_code_Writer_U8.right (fn1_right ok32 E_message_table.right (fn1_right ok33 E_code_Writer_U32.right (fn1_right ok34 E_code_Sum.right (fn1_right ok35 E_code_Writer_Out.right (fn1_right ok63 E_message_table_7.right (fn1_right ok70 E_message_table_12.right (fn1_right ok89 E_message_table_26.right (fn1_right ok124 E_message_number_3.right (fn1_right ok128 E_message_both_3.right (fn1_right ok136 E_message_small_3.right (fn1_right ok140 E_message_name_3.right noFns_right)))))))))))))) plan9 _ w K Tryz.func9 (by kernel_rfl) (by kernel_rfl) (Eq.mp (F_message_Encode.eq F_message_wrong F_code_New F_code_Writer_U8 F_message_table F_code_Writer_U32 F_code_Sum F_code_Writer_Out F_message_table_7 F_message_table_12 F_message_table_26 F_message_number_3 F_message_both_3 F_message_small_3 F_message_name_3 m1 m2 m3 m4 m5 m6 m7 m8 m9 m10 m11 m12 m13 m14 m15 m16 m17 m18 m19 m20 m21 m22 w.heap K) hh)
theorem ok9 : okFn Tryz.prog 9 = true := by kernel_rfl
def F_message_number_4_of (f56_ f58_ f59_ f60_ : Y1) (f66_ : Y10) (f67_ f77_ f81_ f82_ f83_ : Y1) (Φ_ : Fns) (r1 m2 : Option Addr) (x3 x4 : Addr) (h : Heap) (Q : Heap → Prop) : Prop :=
  ld [.fn] x4 h fun (v5 : Option FV) =>
  ld [.int .u64] x3 h fun (v6 : Int) =>
  dyn1 .ptr Φ_ (Kd.enc .fn v5) [(.pointer m2 : Value)] h fun (r8 : Option Addr) (h7 : Heap) =>
  cellsAre h7 x3 [.int .u64 v6] ∧
  f66_ r1 v6 h7 fun (r9 : Int) (h10 : Heap) =>
  nn r8 fun (a11 : Addr) =>
  st a11 [.int .u64 r9] h10 fun (h12 : Heap) =>
  Q h12
def F_message_number_4 (r1 m2 : Option Addr) (x3 x4 : Addr) (h : Heap) (Q : Heap → Prop) : Prop := F_message_number_4_of F_message_table_1 F_message_table_2 F_message_table_3 F_message_table_4 F_code_Reader_Var F_message_table_9 F_message_table_15 F_message_table_18 F_message_table_19 F_message_table_20 (fn1 56 E_message_table_1 (fn1 58 E_message_table_2 (fn1 59 E_message_table_3 (fn1 60 E_message_table_4 (fn1 66 E_code_Reader_Var (fn1 67 E_message_table_9 (fn1 77 E_message_table_15 (fn1 81 E_message_table_18 (fn1 82 E_message_table_19 (fn1 83 E_message_table_20 noFns)))))))))) r1 m2 x3 x4 h Q
def plan125 : Plan := .d [0, 0, 3, 0, 0, 31, 63, 127] [[0, 1, 3, 4, 2, 5, 6, 7]] []
theorem F_message_number_4.eq (f56_ f58_ f59_ f60_ : Y1) (f66_ : Y10) (f67_ f77_ f81_ f82_ f83_ : Y1) (r1 m2 : Option Addr) (x3 x4 : Addr) (h : Heap) (K : YV) : F_message_number_4_of f56_ f58_ f59_ f60_ f66_ f67_ f77_ f81_ f82_ f83_ (fn1 56 (E_message_table_1_of f56_) (fn1 58 (E_message_table_2_of f58_) (fn1 59 (E_message_table_3_of f59_) (fn1 60 (E_message_table_4_of f60_) (fn1 66 (E_code_Reader_Var_of f66_) (fn1 67 (E_message_table_9_of f67_) (fn1 77 (E_message_table_15_of f77_) (fn1 81 (E_message_table_18_of f81_) (fn1 82 (E_message_table_19_of f82_) (fn1 83 (E_message_table_20_of f83_) noFns)))))))))) r1 m2 x3 x4 h (fun  (h : Heap) => K (.tuple #[]) h) =
    den Tryz.prog (fn1 56 (E_message_table_1_of f56_) (fn1 58 (E_message_table_2_of f58_) (fn1 59 (E_message_table_3_of f59_) (fn1 60 (E_message_table_4_of f60_) (fn1 66 (E_code_Reader_Var_of f66_) (fn1 67 (E_message_table_9_of f67_) (fn1 77 (E_message_table_15_of f77_) (fn1 81 (E_message_table_18_of f81_) (fn1 82 (E_message_table_19_of f82_) (fn1 83 (E_message_table_20_of f83_) noFns)))))))))) Tryz.f125.ntmps plan125 (bodyOf Tryz.f125) (args0 0 [(.pointer r1 : Value), (.pointer m2 : Value), (.pointer (some x3) : Value), (.pointer (some x4) : Value)]) h (konF Tryz.f125 K) := by kernel_rfl
def E_message_number_4_of (f : Y13) : List Value → Heap → YV → Prop
  | [v0, v1, v2, v3], h, K => dec1 .ptr v0 fun (r1 : Option Addr) =>
  dec1 .ptr v1 fun (m2 : Option Addr) =>
  dec1 .addr v2 fun (x3 : Addr) =>
  dec1 .addr v3 fun (x4 : Addr) =>
  f r1 m2 x3 x4 h (fun  (h : Heap) => K (.tuple #[]) h)
  | _, _, _ => False
abbrev E_message_number_4 := E_message_number_4_of F_message_number_4
theorem E_message_number_4.at (f : Y13) (r1 m2 : Option Addr) (x3 x4 : Addr) (h : Heap) (K : YV) : E_message_number_4_of f [.pointer r1, .pointer m2, .pointer (some x3), .pointer (some x4)] h K = f r1 m2 x3 x4 h (fun  (h : Heap) => K (.tuple #[]) h) := rfl
theorem E_message_number_4.right : IsRight Tryz.prog 125 E_message_number_4 := by
  refine isRight fun vs K w hh => ?_
  match vs, hh with
  | [v0, v1, v2, v3], hh =>
    unfold E_message_number_4 E_message_number_4_of at hh
    replace hh := dec1_sound hh; obtain ⟨r1, rfl, hh⟩ := hh
    replace hh := dec1_sound hh; obtain ⟨m2, rfl, hh⟩ := hh
    replace hh := dec1_sound hh; obtain ⟨x3, rfl, hh⟩ := hh
    replace hh := dec1_sound hh; obtain ⟨x4, rfl, hh⟩ := hh
    unfold F_message_number_4 at hh
    exact calls_den (fn1_right ok56 E_message_table_1.right (fn1_right ok58 E_message_table_2.right (fn1_right ok59 E_message_table_3.right (fn1_right ok60 E_message_table_4.right (fn1_right ok66 E_code_Reader_Var.right (fn1_right ok67 E_message_table_9.right (fn1_right ok77 E_message_table_15.right (fn1_right ok81 E_message_table_18.right (fn1_right ok82 E_message_table_19.right (fn1_right ok83 E_message_table_20.right noFns_right)))))))))) plan125 _ w K Tryz.func125 (by kernel_rfl) (by kernel_rfl) (Eq.mp (F_message_number_4.eq F_message_table_1 F_message_table_2 F_message_table_3 F_message_table_4 F_code_Reader_Var F_message_table_9 F_message_table_15 F_message_table_18 F_message_table_19 F_message_table_20 r1 m2 x3 x4 w.heap K) hh)
theorem ok125 : okFn Tryz.prog 125 = true := by kernel_rfl
def F_message_small_4_of (f44_ : Y2) (f76_ f84_ f85_ f86_ : Y1) (Φ_ : Fns) (r1 m2 : Option Addr) (x3 : Addr) (h : Heap) (Q : Heap → Prop) : Prop :=
  ld [.fn] x3 h fun (v4 : Option FV) =>
  dyn1 .ptr Φ_ (Kd.enc .fn v4) [(.pointer m2 : Value)] h fun (r6 : Option Addr) (h5 : Heap) =>
  f44_ r1 h5 fun (r7 : Int) (h8 : Heap) =>
  nn r6 fun (a9 : Addr) =>
  st a9 [.int .i64 (IntKind.i64.wrap r7)] h8 fun (h10 : Heap) =>
  Q h10
def F_message_small_4 (r1 m2 : Option Addr) (x3 : Addr) (h : Heap) (Q : Heap → Prop) : Prop := F_message_small_4_of F_code_Reader_U8 F_message_table_14 F_message_table_21 F_message_table_22 F_message_table_23 (fn1 44 E_code_Reader_U8 (fn1 76 E_message_table_14 (fn1 84 E_message_table_21 (fn1 85 E_message_table_22 (fn1 86 E_message_table_23 noFns))))) r1 m2 x3 h Q
def plan137 : Plan := .r []
theorem F_message_small_4.eq (f44_ : Y2) (f76_ f84_ f85_ f86_ : Y1) (r1 m2 : Option Addr) (x3 : Addr) (h : Heap) (K : YV) : F_message_small_4_of f44_ f76_ f84_ f85_ f86_ (fn1 44 (E_code_Reader_U8_of f44_) (fn1 76 (E_message_table_14_of f76_) (fn1 84 (E_message_table_21_of f84_) (fn1 85 (E_message_table_22_of f85_) (fn1 86 (E_message_table_23_of f86_) noFns))))) r1 m2 x3 h (fun  (h : Heap) => K (.tuple #[]) h) =
    den Tryz.prog (fn1 44 (E_code_Reader_U8_of f44_) (fn1 76 (E_message_table_14_of f76_) (fn1 84 (E_message_table_21_of f84_) (fn1 85 (E_message_table_22_of f85_) (fn1 86 (E_message_table_23_of f86_) noFns))))) Tryz.f137.ntmps plan137 (bodyOf Tryz.f137) (args0 0 [(.pointer r1 : Value), (.pointer m2 : Value), (.pointer (some x3) : Value)]) h (konF Tryz.f137 K) := by kernel_rfl
def E_message_small_4_of (f : Y6) : List Value → Heap → YV → Prop
  | [v0, v1, v2], h, K => dec1 .ptr v0 fun (r1 : Option Addr) =>
  dec1 .ptr v1 fun (m2 : Option Addr) =>
  dec1 .addr v2 fun (x3 : Addr) =>
  f r1 m2 x3 h (fun  (h : Heap) => K (.tuple #[]) h)
  | _, _, _ => False
abbrev E_message_small_4 := E_message_small_4_of F_message_small_4
theorem E_message_small_4.at (f : Y6) (r1 m2 : Option Addr) (x3 : Addr) (h : Heap) (K : YV) : E_message_small_4_of f [.pointer r1, .pointer m2, .pointer (some x3)] h K = f r1 m2 x3 h (fun  (h : Heap) => K (.tuple #[]) h) := rfl
theorem E_message_small_4.right : IsRight Tryz.prog 137 E_message_small_4 := by
  refine isRight fun vs K w hh => ?_
  match vs, hh with
  | [v0, v1, v2], hh =>
    unfold E_message_small_4 E_message_small_4_of at hh
    replace hh := dec1_sound hh; obtain ⟨r1, rfl, hh⟩ := hh
    replace hh := dec1_sound hh; obtain ⟨m2, rfl, hh⟩ := hh
    replace hh := dec1_sound hh; obtain ⟨x3, rfl, hh⟩ := hh
    unfold F_message_small_4 at hh
    exact calls_den (fn1_right ok44 E_code_Reader_U8.right (fn1_right ok76 E_message_table_14.right (fn1_right ok84 E_message_table_21.right (fn1_right ok85 E_message_table_22.right (fn1_right ok86 E_message_table_23.right noFns_right))))) plan137 _ w K Tryz.func137 (by kernel_rfl) (by kernel_rfl) (Eq.mp (F_message_small_4.eq F_code_Reader_U8 F_message_table_14 F_message_table_21 F_message_table_22 F_message_table_23 r1 m2 x3 w.heap K) hh)
theorem ok137 : okFn Tryz.prog 137 = true := by kernel_rfl
def F_message_name_4_of (f74_ : Y11) (f79_ f80_ : Y1) (Φ_ : Fns) (r1 m2 : Option Addr) (x3 : Addr) (h : Heap) (Q : Heap → Prop) : Prop :=
  ld [.fn] x3 h fun (v4 : Option FV) =>
  dyn1 .ptr Φ_ (Kd.enc .fn v4) [(.pointer m2 : Value)] h fun (r6 : Option Addr) (h5 : Heap) =>
  f74_ r1 64 h5 fun (r7 : Sl) (h8 : Heap) =>
  b2s r7.ptr r7.len h8 fun (s9 : ByteArray) =>
  nn r6 fun (a10 : Addr) =>
  st a10 [.string s9] h8 fun (h11 : Heap) =>
  Q h11
def F_message_name_4 (r1 m2 : Option Addr) (x3 : Addr) (h : Heap) (Q : Heap → Prop) : Prop := F_message_name_4_of F_code_Reader_Bytes F_message_table_16 F_message_table_17 (fn1 74 E_code_Reader_Bytes (fn1 79 E_message_table_16 (fn1 80 E_message_table_17 noFns))) r1 m2 x3 h Q
def plan141 : Plan := .r []
theorem F_message_name_4.eq (f74_ : Y11) (f79_ f80_ : Y1) (r1 m2 : Option Addr) (x3 : Addr) (h : Heap) (K : YV) : F_message_name_4_of f74_ f79_ f80_ (fn1 74 (E_code_Reader_Bytes_of f74_) (fn1 79 (E_message_table_16_of f79_) (fn1 80 (E_message_table_17_of f80_) noFns))) r1 m2 x3 h (fun  (h : Heap) => K (.tuple #[]) h) =
    den Tryz.prog (fn1 74 (E_code_Reader_Bytes_of f74_) (fn1 79 (E_message_table_16_of f79_) (fn1 80 (E_message_table_17_of f80_) noFns))) Tryz.f141.ntmps plan141 (bodyOf Tryz.f141) (args0 0 [(.pointer r1 : Value), (.pointer m2 : Value), (.pointer (some x3) : Value)]) h (konF Tryz.f141 K) := by kernel_rfl
def E_message_name_4_of (f : Y6) : List Value → Heap → YV → Prop
  | [v0, v1, v2], h, K => dec1 .ptr v0 fun (r1 : Option Addr) =>
  dec1 .ptr v1 fun (m2 : Option Addr) =>
  dec1 .addr v2 fun (x3 : Addr) =>
  f r1 m2 x3 h (fun  (h : Heap) => K (.tuple #[]) h)
  | _, _, _ => False
abbrev E_message_name_4 := E_message_name_4_of F_message_name_4
theorem E_message_name_4.at (f : Y6) (r1 m2 : Option Addr) (x3 : Addr) (h : Heap) (K : YV) : E_message_name_4_of f [.pointer r1, .pointer m2, .pointer (some x3)] h K = f r1 m2 x3 h (fun  (h : Heap) => K (.tuple #[]) h) := rfl
theorem E_message_name_4.right : IsRight Tryz.prog 141 E_message_name_4 := by
  refine isRight fun vs K w hh => ?_
  match vs, hh with
  | [v0, v1, v2], hh =>
    unfold E_message_name_4 E_message_name_4_of at hh
    replace hh := dec1_sound hh; obtain ⟨r1, rfl, hh⟩ := hh
    replace hh := dec1_sound hh; obtain ⟨m2, rfl, hh⟩ := hh
    replace hh := dec1_sound hh; obtain ⟨x3, rfl, hh⟩ := hh
    unfold F_message_name_4 at hh
    exact calls_den (fn1_right ok74 E_code_Reader_Bytes.right (fn1_right ok79 E_message_table_16.right (fn1_right ok80 E_message_table_17.right noFns_right))) plan141 _ w K Tryz.func141 (by kernel_rfl) (by kernel_rfl) (Eq.mp (F_message_name_4.eq F_code_Reader_Bytes F_message_table_16 F_message_table_17 r1 m2 x3 w.heap K) hh)
theorem ok141 : okFn Tryz.prog 141 = true := by kernel_rfl
def F_message_both_4_of (f65_ f72_ f90_ : Y4) (f125_ : Y13) (f137_ f141_ : Y6) (Φ_ : Fns) (r1 m2 : Option Addr) (x3 x4 : Addr) (h : Heap) (Q : Heap → Prop) : Prop :=
  ld [.fn] (x3.add 3) h fun (v5 : Option FV) =>
  dyn0 Φ_ (Kd.enc .fn v5) [(.pointer r1 : Value), (.pointer m2 : Value)] h fun (h6 : Heap) =>
  ld [.fn] (x4.add 3) h6 fun (v7 : Option FV) =>
  dyn0 Φ_ (Kd.enc .fn v7) [(.pointer r1 : Value), (.pointer m2 : Value)] h6 fun (h8 : Heap) =>
  Q h8
def F_message_both_4 (r1 m2 : Option Addr) (x3 x4 : Addr) (h : Heap) (Q : Heap → Prop) : Prop := F_message_both_4_of F_message_table_8 F_message_table_13 F_message_table_27 F_message_number_4 F_message_small_4 F_message_name_4 (fn1 65 E_message_table_8 (fn1 72 E_message_table_13 (fn1 90 E_message_table_27 (fn1 125 E_message_number_4 (fn1 137 E_message_small_4 (fn1 141 E_message_name_4 noFns)))))) r1 m2 x3 x4 h Q
def plan129 : Plan := .s (.r [0, 1, 3]) (.r [])
theorem F_message_both_4.eq (f65_ f72_ f90_ : Y4) (f125_ : Y13) (f137_ f141_ : Y6) (r1 m2 : Option Addr) (x3 x4 : Addr) (h : Heap) (K : YV) : F_message_both_4_of f65_ f72_ f90_ f125_ f137_ f141_ (fn1 65 (E_message_table_8_of f65_) (fn1 72 (E_message_table_13_of f72_) (fn1 90 (E_message_table_27_of f90_) (fn1 125 (E_message_number_4_of f125_) (fn1 137 (E_message_small_4_of f137_) (fn1 141 (E_message_name_4_of f141_) noFns)))))) r1 m2 x3 x4 h (fun  (h : Heap) => K (.tuple #[]) h) =
    den Tryz.prog (fn1 65 (E_message_table_8_of f65_) (fn1 72 (E_message_table_13_of f72_) (fn1 90 (E_message_table_27_of f90_) (fn1 125 (E_message_number_4_of f125_) (fn1 137 (E_message_small_4_of f137_) (fn1 141 (E_message_name_4_of f141_) noFns)))))) Tryz.f129.ntmps plan129 (bodyOf Tryz.f129) (args0 0 [(.pointer r1 : Value), (.pointer m2 : Value), (.pointer (some x3) : Value), (.pointer (some x4) : Value)]) h (konF Tryz.f129 K) := by kernel_rfl
def E_message_both_4_of (f : Y13) : List Value → Heap → YV → Prop
  | [v0, v1, v2, v3], h, K => dec1 .ptr v0 fun (r1 : Option Addr) =>
  dec1 .ptr v1 fun (m2 : Option Addr) =>
  dec1 .addr v2 fun (x3 : Addr) =>
  dec1 .addr v3 fun (x4 : Addr) =>
  f r1 m2 x3 x4 h (fun  (h : Heap) => K (.tuple #[]) h)
  | _, _, _ => False
abbrev E_message_both_4 := E_message_both_4_of F_message_both_4
theorem E_message_both_4.at (f : Y13) (r1 m2 : Option Addr) (x3 x4 : Addr) (h : Heap) (K : YV) : E_message_both_4_of f [.pointer r1, .pointer m2, .pointer (some x3), .pointer (some x4)] h K = f r1 m2 x3 x4 h (fun  (h : Heap) => K (.tuple #[]) h) := rfl
theorem E_message_both_4.right : IsRight Tryz.prog 129 E_message_both_4 := by
  refine isRight fun vs K w hh => ?_
  match vs, hh with
  | [v0, v1, v2, v3], hh =>
    unfold E_message_both_4 E_message_both_4_of at hh
    replace hh := dec1_sound hh; obtain ⟨r1, rfl, hh⟩ := hh
    replace hh := dec1_sound hh; obtain ⟨m2, rfl, hh⟩ := hh
    replace hh := dec1_sound hh; obtain ⟨x3, rfl, hh⟩ := hh
    replace hh := dec1_sound hh; obtain ⟨x4, rfl, hh⟩ := hh
    unfold F_message_both_4 at hh
    exact calls_den (fn1_right ok65 E_message_table_8.right (fn1_right ok72 E_message_table_13.right (fn1_right ok90 E_message_table_27.right (fn1_right ok125 E_message_number_4.right (fn1_right ok137 E_message_small_4.right (fn1_right ok141 E_message_name_4.right noFns_right)))))) plan129 _ w K Tryz.func129 (by kernel_rfl) (by kernel_rfl) (Eq.mp (F_message_both_4.eq F_message_table_8 F_message_table_13 F_message_table_27 F_message_number_4 F_message_small_4 F_message_name_4 r1 m2 x3 x4 w.heap K) hh)
theorem ok129 : okFn Tryz.prog 129 = true := by kernel_rfl
def F_message_Decode.l1 (f44_ : Y2) (r62 : Option Addr) (a66 : Addr) (j68 : Heap → Prop) : Int → Heap → Prop :=
  wl [(48, .one (.int .i64))] (fun (next69 : Int → Heap → Prop) (x70 : Int) (h71 : Heap) =>
  brr (decide (x70 < ((4 : Nat) : Int)))
  (ixS 1 ⟨(some a66), 4, 4⟩ x70 fun (a72 : Addr) =>
  ld [.ptr] a72 h71 fun (v73 : Option Addr) =>
  f44_ r62 h71 fun (r74 : Int) (h75 : Heap) =>
  nn v73 fun (a76 : Addr) =>
  st a76 [.int .i64 (IntKind.i64.wrap r74)] h75 fun (h77 : Heap) =>
  next69 (IntKind.i64.wrap (x70 + 1)) h77)
  (j68 h71))
def F_message_Decode.l2 (Φ_ : Fns) (r62 : Option Addr) (a64 a168 : Addr) (v173 : Sl) (j174 : Heap → Prop) : Int → Heap → Prop :=
  wl [(70, .one (.int .i64))] (fun (next175 : Int → Heap → Prop) (x176 : Int) (h177 : Heap) =>
  brr (decide (x176 < ((v173.len : Nat) : Int)))
  (ixS 1 v173 x176 fun (a178 : Addr) =>
  ld [.int .i64] a178 h177 fun (v179 : Int) =>
  ixA 4 a168 16 v179 fun (a180 : Addr) =>
  ld [.fn] (a180.add 3) h177 fun (v181 : Option FV) =>
  dyn0 Φ_ (Kd.enc .fn v181) [(.pointer r62 : Value), (.pointer (some a64) : Value)] h177 fun (h182 : Heap) =>
  next175 (IntKind.i64.wrap (x176 + 1)) h182)
  (j174 h177))
def F_message_Decode_of (f29_ : Y2) (f32_ : Y19) (f34_ : Y20) (f42_ : Y28) (f43_ f44_ f45_ : Y2) (f65_ f72_ f90_ : Y4) (f125_ f129_ : Y13) (f137_ f141_ : Y6) (Φ_ : Fns) (b1 : Sl) (h : Heap) (Q : Int → Int → Int → Int → Int → Int → Int → Int → Int → Int → Sl → Int → Int → ByteArray → ByteArray → Int → Int → Int → Int → Int → Int → Int → Int → Heap → Prop) : Prop :=
  al 52 [.int .i64 0, .int .i64 0, .int .i64 0, .int .i64 0, .int .u64 0, .int .u64 0, .int .u64 0, .int .u64 0, .int .i64 0, .int .u64 0, .slice none 0 0, .int .i64 0, .int .u64 0, .string (⟨#[]⟩ : ByteArray), .string (⟨#[]⟩ : ByteArray), .int .u64 0, .int .u64 0, .int .u64 0, .int .i64 0, .int .i64 0, .int .i64 0, .int .i64 0] h fun (a2 : Addr) (h3 : Heap) =>
  jn [(21, .one .bool)] (fun (x5 : Bool) (h6 : Heap) =>
  brr x5
  (st a2 [.int .i64 0, .int .i64 0, .int .i64 0, .int .i64 0, .int .u64 0, .int .u64 0, .int .u64 0, .int .u64 0, .int .i64 0, .int .u64 0, .slice none 0 0, .int .i64 0, .int .u64 0, .string (⟨#[]⟩ : ByteArray), .string (⟨#[]⟩ : ByteArray), .int .u64 0, .int .u64 0, .int .u64 0, .int .i64 0, .int .i64 0, .int .i64 0, .int .i64 0] h6 fun (h7 : Heap) =>
  ld K22 a2 h7 fun (v8 v9 v10 v11 v12 v13 v14 v15 v16 v17 : Int) (v18 : Sl) (v19 v20 : Int) (v21 v22 : ByteArray) (v23 v24 v25 v26 v27 v28 v29 : Int) =>
  Q v8 v9 v10 v11 v12 v13 v14 v15 v16 v17 v18 v19 v20 v21 v22 v23 v24 v25 v26 v27 v28 v29 81 h7)
  (slFrom 1 b1 (IntKind.i64.wrap (((b1.len : Nat) : Int) - 4)) fun (s30 : Sl) =>
  slTo b1 (IntKind.i64.wrap (((b1.len : Nat) : Int) - 4)) fun (s31 : Sl) =>
  f42_ s30 h6 fun (r32 : Option Addr) (h33 : Heap) =>
  f43_ r32 h33 fun (r34 : Int) (h35 : Heap) =>
  f34_ s31 h35 fun (r36 : Int) (h37 : Heap) =>
  brr (r34 != r36)
  (st a2 [.int .i64 0, .int .i64 0, .int .i64 0, .int .i64 0, .int .u64 0, .int .u64 0, .int .u64 0, .int .u64 0, .int .i64 0, .int .u64 0, .slice none 0 0, .int .i64 0, .int .u64 0, .string (⟨#[]⟩ : ByteArray), .string (⟨#[]⟩ : ByteArray), .int .u64 0, .int .u64 0, .int .u64 0, .int .i64 0, .int .i64 0, .int .i64 0, .int .i64 0] h37 fun (h38 : Heap) =>
  ld K22 a2 h38 fun (v39 v40 v41 v42 v43 v44 v45 v46 v47 v48 : Int) (v49 : Sl) (v50 v51 : Int) (v52 v53 : ByteArray) (v54 v55 v56 v57 v58 v59 v60 : Int) =>
  Q v39 v40 v41 v42 v43 v44 v45 v46 v47 v48 v49 v50 v51 v52 v53 v54 v55 v56 v57 v58 v59 v60 82 h38)
  (slTo b1 (IntKind.i64.wrap (((b1.len : Nat) : Int) - 4)) fun (s61 : Sl) =>
  f42_ s61 h37 fun (r62 : Option Addr) (h63 : Heap) =>
  al 52 [.int .i64 0, .int .i64 0, .int .i64 0, .int .i64 0, .int .u64 0, .int .u64 0, .int .u64 0, .int .u64 0, .int .i64 0, .int .u64 0, .slice none 0 0, .int .i64 0, .int .u64 0, .string (⟨#[]⟩ : ByteArray), .string (⟨#[]⟩ : ByteArray), .int .u64 0, .int .u64 0, .int .u64 0, .int .i64 0, .int .i64 0, .int .i64 0, .int .i64 0] h63 fun (a64 : Addr) (h65 : Heap) =>
  al 106 [.pointer (some ((a64.add 0).add 0)), .pointer (some ((a64.add 0).add 1)), .pointer (some ((a64.add 0).add 2)), .pointer (some ((a64.add 0).add 3))] h65 fun (a66 : Addr) (h67 : Heap) =>
  jn [] (fun  (h78 : Heap) =>
  ld [.int .i64] ((a64.add 0).add 0) h78 fun (v79 : Int) =>
  brr (decide (v79 > 11))
  (st a2 [.int .i64 0, .int .i64 0, .int .i64 0, .int .i64 0, .int .u64 0, .int .u64 0, .int .u64 0, .int .u64 0, .int .i64 0, .int .u64 0, .slice none 0 0, .int .i64 0, .int .u64 0, .string (⟨#[]⟩ : ByteArray), .string (⟨#[]⟩ : ByteArray), .int .u64 0, .int .u64 0, .int .u64 0, .int .i64 0, .int .i64 0, .int .i64 0, .int .i64 0] h78 fun (h80 : Heap) =>
  ld K22 a2 h80 fun (v81 v82 v83 v84 v85 v86 v87 v88 v89 v90 : Int) (v91 : Sl) (v92 v93 : Int) (v94 v95 : ByteArray) (v96 v97 v98 v99 v100 v101 v102 : Int) =>
  Q v81 v82 v83 v84 v85 v86 v87 v88 v89 v90 v91 v92 v93 v94 v95 v96 v97 v98 v99 v100 v101 v102 81 h80)
  (f32_ h78 fun (r103 r104 r105 r106 r107 r108 r109 r110 r111 r112 r113 r114 r115 r116 r117 r118 r119 r120 r121 r122 r123 r124 r125 r126 r127 r128 r129 r130 r131 r132 r133 r134 r135 r136 r137 r138 r139 r140 r141 r142 r143 r144 r145 r146 r147 r148 r149 r150 r151 r152 r153 r154 r155 r156 r157 r158 r159 r160 r161 r162 r163 r164 r165 r166 : Option FV) (h167 : Heap) =>
  al 90 (.nilFunc :: .nilFunc :: .nilFunc :: .nilFunc :: .nilFunc :: .nilFunc :: .nilFunc :: .nilFunc :: .nilFunc :: .nilFunc :: .nilFunc :: .nilFunc :: .nilFunc :: .nilFunc :: .nilFunc :: .nilFunc :: .nilFunc :: .nilFunc :: .nilFunc :: .nilFunc :: .nilFunc :: .nilFunc :: .nilFunc :: .nilFunc :: .nilFunc :: .nilFunc :: .nilFunc :: .nilFunc :: .nilFunc :: .nilFunc :: .nilFunc :: .nilFunc :: .nilFunc :: .nilFunc :: .nilFunc :: .nilFunc :: .nilFunc :: .nilFunc :: .nilFunc :: .nilFunc :: .nilFunc :: .nilFunc :: .nilFunc :: .nilFunc :: .nilFunc :: .nilFunc :: .nilFunc :: .nilFunc :: .nilFunc :: .nilFunc :: .nilFunc :: .nilFunc :: .nilFunc :: .nilFunc :: .nilFunc :: .nilFunc :: .nilFunc :: .nilFunc :: .nilFunc :: .nilFunc :: .nilFunc :: .nilFunc :: .nilFunc :: .nilFunc :: []) h167 fun (a168 : Addr) (h169 : Heap) =>
  st a168 ((Kd.enc .fn r103) :: (Kd.enc .fn r104) :: (Kd.enc .fn r105) :: (Kd.enc .fn r106) :: (Kd.enc .fn r107) :: (Kd.enc .fn r108) :: (Kd.enc .fn r109) :: (Kd.enc .fn r110) :: (Kd.enc .fn r111) :: (Kd.enc .fn r112) :: (Kd.enc .fn r113) :: (Kd.enc .fn r114) :: (Kd.enc .fn r115) :: (Kd.enc .fn r116) :: (Kd.enc .fn r117) :: (Kd.enc .fn r118) :: (Kd.enc .fn r119) :: (Kd.enc .fn r120) :: (Kd.enc .fn r121) :: (Kd.enc .fn r122) :: (Kd.enc .fn r123) :: (Kd.enc .fn r124) :: (Kd.enc .fn r125) :: (Kd.enc .fn r126) :: (Kd.enc .fn r127) :: (Kd.enc .fn r128) :: (Kd.enc .fn r129) :: (Kd.enc .fn r130) :: (Kd.enc .fn r131) :: (Kd.enc .fn r132) :: (Kd.enc .fn r133) :: (Kd.enc .fn r134) :: (Kd.enc .fn r135) :: (Kd.enc .fn r136) :: (Kd.enc .fn r137) :: (Kd.enc .fn r138) :: (Kd.enc .fn r139) :: (Kd.enc .fn r140) :: (Kd.enc .fn r141) :: (Kd.enc .fn r142) :: (Kd.enc .fn r143) :: (Kd.enc .fn r144) :: (Kd.enc .fn r145) :: (Kd.enc .fn r146) :: (Kd.enc .fn r147) :: (Kd.enc .fn r148) :: (Kd.enc .fn r149) :: (Kd.enc .fn r150) :: (Kd.enc .fn r151) :: (Kd.enc .fn r152) :: (Kd.enc .fn r153) :: (Kd.enc .fn r154) :: (Kd.enc .fn r155) :: (Kd.enc .fn r156) :: (Kd.enc .fn r157) :: (Kd.enc .fn r158) :: (Kd.enc .fn r159) :: (Kd.enc .fn r160) :: (Kd.enc .fn r161) :: (Kd.enc .fn r162) :: (Kd.enc .fn r163) :: (Kd.enc .fn r164) :: (Kd.enc .fn r165) :: (Kd.enc .fn r166) :: []) h169 fun (h170 : Heap) =>
  ld [.int .i64] ((a64.add 0).add 0) h170 fun (v171 : Int) =>
  ixA 1 (Addr.mk 0 0 none) 12 v171 fun (a172 : Addr) =>
  ld [.sl] a172 h170 fun (v173 : Sl) =>
  jn [] (fun  (h183 : Heap) =>
  jn [(87, .one .bool)] (fun (x189 : Bool) (h190 : Heap) =>
  brr x189
  (st a2 [.int .i64 0, .int .i64 0, .int .i64 0, .int .i64 0, .int .u64 0, .int .u64 0, .int .u64 0, .int .u64 0, .int .i64 0, .int .u64 0, .slice none 0 0, .int .i64 0, .int .u64 0, .string (⟨#[]⟩ : ByteArray), .string (⟨#[]⟩ : ByteArray), .int .u64 0, .int .u64 0, .int .u64 0, .int .i64 0, .int .i64 0, .int .i64 0, .int .i64 0] h190 fun (h191 : Heap) =>
  ld K22 a2 h191 fun (v192 v193 v194 v195 v196 v197 v198 v199 v200 v201 : Int) (v202 : Sl) (v203 v204 : Int) (v205 v206 : ByteArray) (v207 v208 v209 v210 v211 v212 v213 : Int) =>
  Q v192 v193 v194 v195 v196 v197 v198 v199 v200 v201 v202 v203 v204 v205 v206 v207 v208 v209 v210 v211 v212 v213 81 h191)
  (ld K22 a64 h190 fun (v214 v215 v216 v217 v218 v219 v220 v221 v222 v223 : Int) (v224 : Sl) (v225 v226 : Int) (v227 v228 : ByteArray) (v229 v230 v231 v232 v233 v234 v235 : Int) =>
  st a2 [.int .i64 v214, .int .i64 v215, .int .i64 v216, .int .i64 v217, .int .u64 v218, .int .u64 v219, .int .u64 v220, .int .u64 v221, .int .i64 v222, .int .u64 v223, .slice v224.ptr v224.len v224.cap, .int .i64 v225, .int .u64 v226, .string v227, .string v228, .int .u64 v229, .int .u64 v230, .int .u64 v231, .int .i64 v232, .int .i64 v233, .int .i64 v234, .int .i64 v235] h190 fun (h236 : Heap) =>
  ld K22 a2 h236 fun (v237 v238 v239 v240 v241 v242 v243 v244 v245 v246 : Int) (v247 : Sl) (v248 v249 : Int) (v250 v251 : ByteArray) (v252 v253 v254 v255 v256 v257 v258 : Int) =>
  Q v237 v238 v239 v240 v241 v242 v243 v244 v245 v246 v247 v248 v249 v250 v251 v252 v253 v254 v255 v256 v257 v258 0 h236)) (fun (j184 : Bool → Heap → Prop) =>
  f45_ r62 h183 fun (r185 : Int) (h186 : Heap) =>
  brr (r185 != 0)
  (j184 true h186)
  (f29_ (some a64) h186 fun (r187 : Int) (h188 : Heap) =>
  j184 (r187 != 0) h188))) (fun (j174 : Heap → Prop) =>
  F_message_Decode.l2 Φ_ r62 a64 a168 v173 j174 0 h170))) (fun (j68 : Heap → Prop) =>
  F_message_Decode.l1 f44_ r62 a66 j68 0 h67)))) (fun (j4 : Bool → Heap → Prop) =>
  brr (decide ((IntKind.i64.wrap (((b1.len : Nat) : Int) - 4)) < 0))
  (j4 true h3)
  (j4 (decide (((b1.len : Nat) : Int) > 17000)) h3))
def F_message_Decode (b1 : Sl) (h : Heap) (Q : Int → Int → Int → Int → Int → Int → Int → Int → Int → Int → Sl → Int → Int → ByteArray → ByteArray → Int → Int → Int → Int → Int → Int → Int → Int → Heap → Prop) : Prop := F_message_Decode_of F_message_wrong F_message_table F_code_Sum F_code_Read F_code_Reader_U32 F_code_Reader_U8 F_code_Reader_End F_message_table_8 F_message_table_13 F_message_table_27 F_message_number_4 F_message_both_4 F_message_small_4 F_message_name_4 (fn1 29 E_message_wrong (fn1 32 E_message_table (fn1 34 E_code_Sum (fn1 42 E_code_Read (fn1 43 E_code_Reader_U32 (fn1 44 E_code_Reader_U8 (fn1 45 E_code_Reader_End (fn1 65 E_message_table_8 (fn1 72 E_message_table_13 (fn1 90 E_message_table_27 (fn1 125 E_message_number_4 (fn1 129 E_message_both_4 (fn1 137 E_message_small_4 (fn1 141 E_message_name_4 noFns)))))))))))))) b1 h Q
def plan16 : Plan := .s (.r [0, 2]) (.s (.r [0, 2, 4]) (.s (.s (.rj [(21, .one .bool)] [0, 2, 4]) (.c (.s (.r [2, 3]) .z) .z)) (.s (.s (.d [0, 0, 3, 7, 15, 0, 0, 96, 255, 511] [[0, 1, 2, 5, 6, 7, 3, 4, 8, 9]] [0, 2, 4, 32]) (.c (.s (.r [2, 3]) .z) .z)) (.s (.r [2, 5]) (.s (.r [2, 5, 6]) (.s (.s (.r [2, 5, 6, 46, 47, 48]) (.bj [] [2, 5, 6] (.l [(48, .one (.int .i64))] [2, 5, 6, 46, 47] (.s (.r [2, 5, 6, 46, 47, 48, 49]) (.s (.c .z .z) (.s (.b (.s (.r [2, 5, 6, 8, 46, 47, 48]) (.r [2, 5, 6, 46, 47, 48]))) (.r [2, 5, 6, 46, 47, 48]))))))) (.s (.s (.r [2, 5, 6, 61]) (.c (.s (.r [2, 3]) .z) .z)) (.s (.r [2, 5, 6, 9]) (.s (.s (.r [2, 5, 6, 9, 68, 69, 70]) (.bj [] [2, 5, 6] (.l [(70, .one (.int .i64))] [2, 5, 6, 9, 68, 69] (.s (.r [2, 5, 6, 9, 68, 69, 70, 71]) (.s (.c .z .z) (.s (.b (.s (.r [2, 5, 6, 9, 11, 68, 69, 70]) (.r [2, 5, 6, 9, 68, 69, 70]))) (.r [2, 5, 6, 9, 68, 69, 70]))))))) (.s (.s (.rj [(87, .one .bool)] [2, 6]) (.c (.s (.r [2, 3]) .z) .z)) (.s (.r [2, 3]) .z)))))))))))
theorem F_message_Decode.eq (f29_ : Y2) (f32_ : Y19) (f34_ : Y20) (f42_ : Y28) (f43_ f44_ f45_ : Y2) (f65_ f72_ f90_ : Y4) (f125_ f129_ : Y13) (f137_ f141_ : Y6) (b1 : Sl) (h : Heap) (K : YV) : F_message_Decode_of f29_ f32_ f34_ f42_ f43_ f44_ f45_ f65_ f72_ f90_ f125_ f129_ f137_ f141_ (fn1 29 (E_message_wrong_of f29_) (fn1 32 (E_message_table_of f32_) (fn1 34 (E_code_Sum_of f34_) (fn1 42 (E_code_Read_of f42_) (fn1 43 (E_code_Reader_U32_of f43_) (fn1 44 (E_code_Reader_U8_of f44_) (fn1 45 (E_code_Reader_End_of f45_) (fn1 65 (E_message_table_8_of f65_) (fn1 72 (E_message_table_13_of f72_) (fn1 90 (E_message_table_27_of f90_) (fn1 125 (E_message_number_4_of f125_) (fn1 129 (E_message_both_4_of f129_) (fn1 137 (E_message_small_4_of f137_) (fn1 141 (E_message_name_4_of f141_) noFns)))))))))))))) b1 h (fun (r0 r1 r2 r3 r4 r5 r6 r7 r8 r9 : Int) (r10 : Sl) (r11 r12 : Int) (r13 r14 : ByteArray) (r15 r16 r17 r18 r19 r20 r21 r22 : Int) (h : Heap) => K (.tuple #[.agg #[.int .i64 r0, .int .i64 r1, .int .i64 r2, .int .i64 r3, .int .u64 r4, .int .u64 r5, .int .u64 r6, .int .u64 r7, .int .i64 r8, .int .u64 r9, .slice r10.ptr r10.len r10.cap, .int .i64 r11, .int .u64 r12, .string r13, .string r14, .int .u64 r15, .int .u64 r16, .int .u64 r17, .int .i64 r18, .int .i64 r19, .int .i64 r20, .int .i64 r21], .int .i64 r22]) h) =
    den Tryz.prog (fn1 29 (E_message_wrong_of f29_) (fn1 32 (E_message_table_of f32_) (fn1 34 (E_code_Sum_of f34_) (fn1 42 (E_code_Read_of f42_) (fn1 43 (E_code_Reader_U32_of f43_) (fn1 44 (E_code_Reader_U8_of f44_) (fn1 45 (E_code_Reader_End_of f45_) (fn1 65 (E_message_table_8_of f65_) (fn1 72 (E_message_table_13_of f72_) (fn1 90 (E_message_table_27_of f90_) (fn1 125 (E_message_number_4_of f125_) (fn1 129 (E_message_both_4_of f129_) (fn1 137 (E_message_small_4_of f137_) (fn1 141 (E_message_name_4_of f141_) noFns)))))))))))))) Tryz.f16.ntmps plan16 (bodyOf Tryz.f16) (args0 0 [(.slice b1.ptr b1.len b1.cap : Value)]) h (konF Tryz.f16 K) := by kernel_rfl
def E_message_Decode_of (f : Y17) : List Value → Heap → YV → Prop
  | [v0], h, K => dec1 .sl v0 fun (b1 : Sl) =>
  f b1 h (fun (r0 r1 r2 r3 r4 r5 r6 r7 r8 r9 : Int) (r10 : Sl) (r11 r12 : Int) (r13 r14 : ByteArray) (r15 r16 r17 r18 r19 r20 r21 r22 : Int) (h : Heap) => K (.tuple #[.agg #[.int .i64 r0, .int .i64 r1, .int .i64 r2, .int .i64 r3, .int .u64 r4, .int .u64 r5, .int .u64 r6, .int .u64 r7, .int .i64 r8, .int .u64 r9, .slice r10.ptr r10.len r10.cap, .int .i64 r11, .int .u64 r12, .string r13, .string r14, .int .u64 r15, .int .u64 r16, .int .u64 r17, .int .i64 r18, .int .i64 r19, .int .i64 r20, .int .i64 r21], .int .i64 r22]) h)
  | _, _, _ => False
abbrev E_message_Decode := E_message_Decode_of F_message_Decode
theorem E_message_Decode.right : IsRight Tryz.prog 16 E_message_Decode := by
  refine isRight fun vs K w hh => ?_
  match vs, hh with
  | [v0], hh =>
    unfold E_message_Decode E_message_Decode_of at hh
    replace hh := dec1_sound hh; obtain ⟨b1, rfl, hh⟩ := hh
    unfold F_message_Decode at hh
    exact calls_den (fn1_right ok29 E_message_wrong.right (fn1_right ok32 E_message_table.right (fn1_right ok34 E_code_Sum.right (fn1_right ok42 E_code_Read.right (fn1_right ok43 E_code_Reader_U32.right (fn1_right ok44 E_code_Reader_U8.right (fn1_right ok45 E_code_Reader_End.right (fn1_right ok65 E_message_table_8.right (fn1_right ok72 E_message_table_13.right (fn1_right ok90 E_message_table_27.right (fn1_right ok125 E_message_number_4.right (fn1_right ok129 E_message_both_4.right (fn1_right ok137 E_message_small_4.right (fn1_right ok141 E_message_name_4.right noFns_right)))))))))))))) plan16 _ w K Tryz.func16 (by kernel_rfl) (by kernel_rfl) (Eq.mp (F_message_Decode.eq F_message_wrong F_message_table F_code_Sum F_code_Read F_code_Reader_U32 F_code_Reader_U8 F_code_Reader_End F_message_table_8 F_message_table_13 F_message_table_27 F_message_number_4 F_message_both_4 F_message_small_4 F_message_name_4 b1 w.heap K) hh)
theorem ok16 : okFn Tryz.prog 16 = true := by kernel_rfl
end Go.Proofs.YthiginhigfieiaaGreatDoor.V
/- The table of the fields. -/
namespace Go.Proofs.YthiginhigfieiaaGreatDoor.V
open Go Go.RowKit
set_option linter.unusedVariables false
set_option linter.unusedSimpArgs false
def fv (n : Nat) (caps : List Value) : Option FV := some ⟨.func n, [], caps⟩
def pv (b : Nat) : Value := .pointer (some (pt b 0))
theorem dyn1_of {k : Kd} {Φ : Fns} {n : Nat} {caps vs : List Value} {h : Heap} {K : k.T → Heap → Prop} {E : List Value → Heap → (Value → Heap → Prop) → Prop} (hΦ : Φ n = E) (hE : E (vs ++ caps) h fun u h => dec1 k u fun x => K x h) : dyn1 k Φ (Kd.enc .fn (fv n caps)) vs h K :=
  ⟨_, _, rfl, rfl, by
    show Φ n ([] ++ vs ++ caps) h _
    rw [hΦ]
    exact hE⟩
theorem dyn0_of {Φ : Fns} {n : Nat} {caps vs : List Value} {h : Heap} {K : Heap → Prop} {E : List Value → Heap → (Value → Heap → Prop) → Prop} (hΦ : Φ n = E) (hE : E (vs ++ caps) h fun u h => u = .tuple #[] ∧ K h) : dyn0 Φ (Kd.enc .fn (fv n caps)) vs h K :=
  ⟨_, _, rfl, rfl, by
    show Φ n ([] ++ vs ++ caps) h _
    rw [hΦ]
    exact hE⟩
def atF : Nat → Nat
  | 0 => 56
  | 1 => 58
  | 2 => 59
  | 3 => 60
  | 5 => 67
  | 8 => 77
  | 11 => 81
  | 12 => 82
  | 13 => 83
  | 7 => 76
  | 14 => 84
  | 15 => 85
  | 16 => 86
  | 9 => 79
  | 10 => 80
  | _ => 0
def pc : Nat → Nat
  | 4 => 3
  | 6 => 3
  | 17 => 3
  | 7 => 1
  | 14 => 1
  | 15 => 1
  | 16 => 1
  | 9 => 2
  | 10 => 2
  | _ => 0
abbrev Bxs := List (Nat × List Value)
def Bx (h : Heap) (T : Bxs) : Prop := ∀ x ∈ T, cellsAre h (pt x.1 0) x.2
def atV (p : Nat) : Option FV := fv (atF p) []
structure PrimOk (T : Bxs) (p : Nat) (v1 v2 v3 v4 : Option FV) : Prop where
  num : pc p = 0 → ∃ a m, (a, [Kd.enc .fn (atV p)]) ∈ T ∧ (m, [.int .u64 (pmax p : Nat)]) ∈ T ∧ v1 = fv 122 [pv a, pv m] ∧ v2 = fv 123 [pv a] ∧ v3 = fv 124 [pv a] ∧ v4 = fv 125 [pv m, pv a]
  sml : pc p = 1 → ∃ a m, (a, [Kd.enc .fn (atV p)]) ∈ T ∧ (m, [.int .i64 (pmax p : Nat)]) ∈ T ∧ v1 = fv 134 [pv a, pv m] ∧ v2 = fv 135 [pv a] ∧ v3 = fv 136 [pv a] ∧ v4 = fv 137 [pv a]
  nam : pc p = 2 → ∃ a, (a, [Kd.enc .fn (atV p)]) ∈ T ∧ v1 = fv 138 [pv a] ∧ v2 = fv 139 [pv a] ∧ v3 = fv 140 [pv a] ∧ v4 = fv 141 [pv a]
  c4 : p = 4 → v1 = fv 61 [] ∧ v2 = fv 62 [] ∧ v3 = fv 63 [] ∧ v4 = fv 65 []
  c6 : p = 6 → v1 = fv 68 [] ∧ v2 = fv 69 [] ∧ v3 = fv 70 [] ∧ v4 = fv 72 []
  c17 : p = 17 → v1 = fv 87 [] ∧ v2 = fv 88 [] ∧ v3 = fv 89 [] ∧ v4 = fv 90 []
def fp : Nat → List Nat
  | 0 => [0]
  | 1 => [1, 2]
  | 2 => [3]
  | 3 => [4]
  | 4 => [5]
  | 5 => [6]
  | 6 => [7]
  | 7 => [8]
  | 8 => [9]
  | 9 => [10]
  | 10 => [11]
  | 11 => [12, 13]
  | 12 => [14]
  | 13 => [15]
  | 14 => [16]
  | 15 => [17]
  | _ => []
def FieldOk (T : Bxs) (f : Nat) (v1 v2 v3 v4 : Option FV) : Prop := (∃ p, p < 18 ∧ fp f = [p] ∧ PrimOk T p v1 v2 v3 v4) ∨ ∃ p q b c a1 a2 a3 a4 c1 c2 c3 c4, p < 18 ∧ q < 18 ∧ fp f = [p, q] ∧ (b, [Kd.enc .fn a1, Kd.enc .fn a2, Kd.enc .fn a3, Kd.enc .fn a4]) ∈ T ∧ (c, [Kd.enc .fn c1, Kd.enc .fn c2, Kd.enc .fn c3, Kd.enc .fn c4]) ∈ T ∧ PrimOk T p a1 a2 a3 a4 ∧ PrimOk T q c1 c2 c3 c4 ∧ v1 = fv 126 [pv b, pv c] ∧ v2 = fv 127 [pv b, pv c] ∧ v3 = fv 128 [pv b, pv c] ∧ v4 = fv 129 [pv b, pv c]
def MsgAt (h : Heap) (b : Nat) (m : Mg) : Prop := cellsAre h (pt b 0) (mgC m) ∧ m.v.len = m.b.length
structure MgOk (m : Mg) : Prop where
  u : ∀ p, pc p = 0 → 0 ≤ pget p m ∧ pget p m ≤ 18446744073709551615
  i : ∀ p, -9223372036854775808 ≤ pget p m ∧ (pc p ≠ 0 → pget p m ≤ 9223372036854775807)
  b : m.b.length ≤ 140737488350000
  n : m.name.size ≤ 140737488350000
  o : m.other.size ≤ 140737488350000
  k : -9223372036854775808 ≤ m.kind ∧ m.kind ≤ 9223372036854775807
  f : -9223372036854775808 ≤ m.frm ∧ m.frm ≤ 9223372036854775807
  t : -9223372036854775808 ≤ m.to ∧ m.to ≤ 9223372036854775807
  s : -9223372036854775808 ≤ m.shard ∧ m.shard ≤ 9223372036854775807
def Pos (m : Mg) : Prop := ∀ p, pc p = 0 → 0 ≤ pget p m
structure AtN (Φ : Fns) : Prop where
  a0 : Φ 56 = E_message_table_1
  a1 : Φ 58 = E_message_table_2
  a2 : Φ 59 = E_message_table_3
  a3 : Φ 60 = E_message_table_4
  a5 : Φ 67 = E_message_table_9
  a8 : Φ 77 = E_message_table_15
  a11 : Φ 81 = E_message_table_18
  a12 : Φ 82 = E_message_table_19
  a13 : Φ 83 = E_message_table_20
structure AtS (Φ : Fns) : Prop where
  a7 : Φ 76 = E_message_table_14
  a14 : Φ 84 = E_message_table_21
  a15 : Φ 85 = E_message_table_22
  a16 : Φ 86 = E_message_table_23
structure AtA (Φ : Fns) : Prop where
  a9 : Φ 79 = E_message_table_16
  a10 : Φ 80 = E_message_table_17
section
variable {h0 h : Heap} {L : List Res} {b : Nat} {m : Mg} {T : Bxs}
theorem cas0 : ∀ p < 18, (pc p = 0 → p = 0 ∨ p = 1 ∨ p = 2 ∨ p = 3 ∨ p = 5 ∨ p = 8 ∨ p = 11 ∨ p = 12 ∨ p = 13) ∧ (pc p = 1 → p = 7 ∨ p = 14 ∨ p = 15 ∨ p = 16) ∧ (pc p = 2 → p = 9 ∨ p = 10) ∧ (pc p = 3 → p = 4 ∨ p = 6 ∨ p = 17) ∧ pc p < 4 := by
  intro p hp
  rcases (by omega : p = 0 ∨ p = 1 ∨ p = 2 ∨ p = 3 ∨ p = 4 ∨ p = 5 ∨ p = 6 ∨ p = 7 ∨ p = 8 ∨ p = 9 ∨ p = 10 ∨ p = 11 ∨ p = 12 ∨ p = 13 ∨ p = 14 ∨ p = 15 ∨ p = 16 ∨ p = 17) with rfl | rfl | rfl | rfl | rfl | rfl | rfl | rfl | rfl | rfl | rfl | rfl | rfl | rfl | rfl | rfl | rfl | rfl <;> decide
theorem cas {p c : Nat} (hp : p < 18) (hc : pc p = c) : (c = 0 → p = 0 ∨ p = 1 ∨ p = 2 ∨ p = 3 ∨ p = 5 ∨ p = 8 ∨ p = 11 ∨ p = 12 ∨ p = 13) ∧ (c = 1 → p = 7 ∨ p = 14 ∨ p = 15 ∨ p = 16) ∧ (c = 2 → p = 9 ∨ p = 10) ∧ (c = 3 → p = 4 ∨ p = 6 ∨ p = 17) ∧ c < 4 := by
  subst hc
  exact cas0 p hp
theorem at_num {Φ : Fns} {p : Nat} {K : Option Addr → Heap → Prop} (hp : p < 18) (hc : pc p = 0) (A : AtN Φ) (k : K (some (pt b (p + 4))) h) : dyn1 .ptr Φ (Kd.enc .fn (atV p)) [.pointer (some (pt b 0))] h K := by
  rcases (cas hp hc).1 rfl with rfl | rfl | rfl | rfl | rfl | rfl | rfl | rfl | rfl
  · refine dyn1_of A.a0 ?_
    refine Eq.mpr (E_message_table_1.at ..) ?_
    rw [F_message_table_1.eq_1, F_message_table_1_of.eq_1]
    simp only [nn_some, pt_add, Nat.zero_add, Nat.add_zero, Nat.reduceAdd, Nat.reduceMul, Int.toNat_zero, Int.toNat_one, Nat.zero_mul, Nat.one_mul]
    exact k
  · refine dyn1_of A.a1 ?_
    refine Eq.mpr (E_message_table_2.at ..) ?_
    rw [F_message_table_2.eq_1, F_message_table_2_of.eq_1]
    simp only [nn_some, pt_add, Nat.zero_add, Nat.add_zero, Nat.reduceAdd, Nat.reduceMul, Int.toNat_zero, Int.toNat_one, Nat.zero_mul, Nat.one_mul]
    exact k
  · refine dyn1_of A.a2 ?_
    refine Eq.mpr (E_message_table_3.at ..) ?_
    rw [F_message_table_3.eq_1, F_message_table_3_of.eq_1]
    simp only [nn_some, pt_add, Nat.zero_add, Nat.add_zero, Nat.reduceAdd, Nat.reduceMul, Int.toNat_zero, Int.toNat_one, Nat.zero_mul, Nat.one_mul]
    exact k
  · refine dyn1_of A.a3 ?_
    refine Eq.mpr (E_message_table_4.at ..) ?_
    rw [F_message_table_4.eq_1, F_message_table_4_of.eq_1]
    simp only [nn_some, pt_add, Nat.zero_add, Nat.add_zero, Nat.reduceAdd, Nat.reduceMul, Int.toNat_zero, Int.toNat_one, Nat.zero_mul, Nat.one_mul]
    exact k
  · refine dyn1_of A.a5 ?_
    refine Eq.mpr (E_message_table_9.at ..) ?_
    rw [F_message_table_9.eq_1, F_message_table_9_of.eq_1]
    simp only [nn_some, pt_add, Nat.zero_add, Nat.add_zero, Nat.reduceAdd, Nat.reduceMul, Int.toNat_zero, Int.toNat_one, Nat.zero_mul, Nat.one_mul]
    exact k
  · refine dyn1_of A.a8 ?_
    refine Eq.mpr (E_message_table_15.at ..) ?_
    rw [F_message_table_15.eq_1, F_message_table_15_of.eq_1]
    simp only [nn_some, pt_add, Nat.zero_add, Nat.add_zero, Nat.reduceAdd, Nat.reduceMul, Int.toNat_zero, Int.toNat_one, Nat.zero_mul, Nat.one_mul]
    exact k
  · refine dyn1_of A.a11 ?_
    refine Eq.mpr (E_message_table_18.at ..) ?_
    rw [F_message_table_18.eq_1, F_message_table_18_of.eq_1]
    simp only [nn_some, pt_add, Nat.zero_add, Nat.add_zero, Nat.reduceAdd, Nat.reduceMul, Int.toNat_zero, Int.toNat_one, Nat.zero_mul, Nat.one_mul]
    exact k
  · refine dyn1_of A.a12 ?_
    refine Eq.mpr (E_message_table_19.at ..) ?_
    rw [F_message_table_19.eq_1, F_message_table_19_of.eq_1]
    simp only [nn_some, pt_add, Nat.zero_add, Nat.add_zero, Nat.reduceAdd, Nat.reduceMul, Int.toNat_zero, Int.toNat_one, Nat.zero_mul, Nat.one_mul]
    exact k
  · refine dyn1_of A.a13 ?_
    refine Eq.mpr (E_message_table_20.at ..) ?_
    rw [F_message_table_20.eq_1, F_message_table_20_of.eq_1]
    simp only [nn_some, pt_add, Nat.zero_add, Nat.add_zero, Nat.reduceAdd, Nat.reduceMul, Int.toNat_zero, Int.toNat_one, Nat.zero_mul, Nat.one_mul]
    exact k
theorem at_sml {Φ : Fns} {p : Nat} {K : Option Addr → Heap → Prop} (hp : p < 18) (hc : pc p = 1) (A : AtS Φ) (k : K (some (pt b (p + 4))) h) : dyn1 .ptr Φ (Kd.enc .fn (atV p)) [.pointer (some (pt b 0))] h K := by
  rcases (cas hp hc).2.1 rfl with rfl | rfl | rfl | rfl
  · refine dyn1_of A.a7 ?_
    refine Eq.mpr (E_message_table_14.at ..) ?_
    rw [F_message_table_14.eq_1, F_message_table_14_of.eq_1]
    simp only [nn_some, pt_add, Nat.zero_add, Nat.add_zero, Nat.reduceAdd, Nat.reduceMul, Int.toNat_zero, Int.toNat_one, Nat.zero_mul, Nat.one_mul]
    exact k
  · refine dyn1_of A.a14 ?_
    refine Eq.mpr (E_message_table_21.at ..) ?_
    rw [F_message_table_21.eq_1, F_message_table_21_of.eq_1]
    simp only [nn_some, pt_add, Nat.zero_add, Nat.add_zero, Nat.reduceAdd, Nat.reduceMul, Int.toNat_zero, Int.toNat_one, Nat.zero_mul, Nat.one_mul]
    exact k
  · refine dyn1_of A.a15 ?_
    refine Eq.mpr (E_message_table_22.at ..) ?_
    rw [F_message_table_22.eq_1, F_message_table_22_of.eq_1]
    simp only [nn_some, pt_add, Nat.zero_add, Nat.add_zero, Nat.reduceAdd, Nat.reduceMul, Int.toNat_zero, Int.toNat_one, Nat.zero_mul, Nat.one_mul]
    exact k
  · refine dyn1_of A.a16 ?_
    refine Eq.mpr (E_message_table_23.at ..) ?_
    rw [F_message_table_23.eq_1, F_message_table_23_of.eq_1]
    simp only [nn_some, pt_add, Nat.zero_add, Nat.add_zero, Nat.reduceAdd, Nat.reduceMul, Int.toNat_zero, Int.toNat_one, Nat.zero_mul, Nat.one_mul]
    exact k
theorem at_nam {Φ : Fns} {p : Nat} {K : Option Addr → Heap → Prop} (hp : p < 18) (hc : pc p = 2) (A : AtA Φ) (k : K (some (pt b (p + 4))) h) : dyn1 .ptr Φ (Kd.enc .fn (atV p)) [.pointer (some (pt b 0))] h K := by
  rcases (cas hp hc).2.2.1 rfl with rfl | rfl
  · refine dyn1_of A.a9 ?_
    refine Eq.mpr (E_message_table_16.at ..) ?_
    rw [F_message_table_16.eq_1, F_message_table_16_of.eq_1]
    simp only [nn_some, pt_add, Nat.zero_add, Nat.add_zero, Nat.reduceAdd, Nat.reduceMul, Int.toNat_zero, Int.toNat_one, Nat.zero_mul, Nat.one_mul]
    exact k
  · refine dyn1_of A.a10 ?_
    refine Eq.mpr (E_message_table_17.at ..) ?_
    rw [F_message_table_17.eq_1, F_message_table_17_of.eq_1]
    simp only [nn_some, pt_add, Nat.zero_add, Nat.add_zero, Nat.reduceAdd, Nat.reduceMul, Int.toNat_zero, Int.toNat_one, Nat.zero_mul, Nat.one_mul]
    exact k
theorem ld_u {p : Nat} {K : Int → Prop} (hp : p < 18) (hc : pc p = 0) (C : cellsAre h (pt b 0) (mgC m)) (k : K (pget p m)) : ld [.int .u64] (pt b (p + 4)) h K := by
  have key : ∀ o, ldL [.int .u64] ((mgC m).drop o) K → ld [.int .u64] (pt b o) h K := fun o hl => by
    have := ld_drop C o hl
    rwa [pt_add, Nat.zero_add] at this
  rcases (cas hp hc).1 rfl with rfl | rfl | rfl | rfl | rfl | rfl | rfl | rfl | rfl <;> exact key _ (ldL_c (ldL_n k))
theorem ld_i {p : Nat} {K : Int → Prop} (hp : p < 18) (hc : pc p = 1) (C : cellsAre h (pt b 0) (mgC m)) (k : K (pget p m)) : ld [.int .i64] (pt b (p + 4)) h K := by
  have key : ∀ o, ldL [.int .i64] ((mgC m).drop o) K → ld [.int .i64] (pt b o) h K := fun o hl => by
    have := ld_drop C o hl
    rwa [pt_add, Nat.zero_add] at this
  rcases (cas hp hc).2.1 rfl with rfl | rfl | rfl | rfl <;> exact key _ (ldL_c (ldL_n k))
def pstr (p : Nat) (m : Mg) : ByteArray := if p = 9 then m.name else m.other
theorem pstr_txt {p : Nat} (hp : p < 18) (hc : pc p = 2) : (pstr p m).data.toList = ptxt p m := by
  rcases (cas hp hc).2.2.1 rfl with rfl | rfl <;> rfl
theorem pstr_len {p : Nat} (hp : p < 18) (hc : pc p = 2) : (pstr p m).size = (ptxt p m).length := by
  rw [← pstr_txt hp hc, Array.length_toList]
  rfl
theorem ld_a {p : Nat} {K : ByteArray → Prop} (hp : p < 18) (hc : pc p = 2) (C : cellsAre h (pt b 0) (mgC m)) (k : K (pstr p m)) : ld [.str] (pt b (p + 4)) h K := by
  have key : ∀ o, ldL [.str] ((mgC m).drop o) K → ld [.str] (pt b o) h K := fun o hl => by
    have := ld_drop C o hl
    rwa [pt_add, Nat.zero_add] at this
  rcases (cas hp hc).2.2.1 rfl with rfl | rfl <;> exact key _ (ldL_c (ldL_n k))
theorem may_u {p : Nat} (hp : p < 18) (hc : pc p = 0) (ok : Pos m) : decide (pget p m ≤ (pmax p : Nat)) = mayB p m := by
  have := ok p hc
  unfold mayB
  have h2 : pk p ≠ 2 := by rcases (cas hp hc).1 rfl with rfl | rfl | rfl | rfl | rfl | rfl | rfl | rfl | rfl <;> decide
  have h3 : p ≠ 17 := by intro e; subst e; exact absurd hc (by decide)
  rw [if_neg h2, if_neg h3]
  simp [this]
theorem zero_u {p : Nat} (hp : p < 18) (hc : pc p = 0 ∨ pc p = 1) : (pget p m == 0) = zeroB p m := by
  unfold zeroB
  have h2 : pk p ≠ 2 := by
    rcases hc with hc | hc
    · rcases (cas hp hc).1 rfl with rfl | rfl | rfl | rfl | rfl | rfl | rfl | rfl | rfl <;> decide
    · rcases (cas hp hc).2.1 rfl with rfl | rfl | rfl | rfl <;> decide
  rw [if_neg h2]
  rfl
theorem F_message_number_1.is {p x y : Nat} {Q : Bool → Heap → Prop} (hp : p < 18) (hc : pc p = 0) (ok : Pos m) (C : cellsAre h (pt b 0) (mgC m)) (c1 : cellsAre h (pt x 0) [Kd.enc .fn (atV p)]) (c2 : cellsAre h (pt y 0) [.int .u64 (pmax p : Nat)]) (k : Q (mayB p m) h) : F_message_number_1 (some (pt b 0)) (pt x 0) (pt y 0) h Q := by
  rw [F_message_number_1.eq_1, F_message_number_1_of.eq_1]
  refine ld_are c1 (ldL_c (ldL_n ?_))
  refine ld_are c2 (ldL_c (ldL_n ?_))
  refine at_num hp hc ⟨rfl, rfl, rfl, rfl, rfl, rfl, rfl, rfl, rfl⟩ ⟨c2, ?_⟩
  simp only [nn_some, pt_add, Nat.zero_add, Nat.add_zero, Nat.reduceAdd, Nat.reduceMul, Int.toNat_zero, Int.toNat_one, Nat.zero_mul, Nat.one_mul]
  refine ld_u hp hc C ?_
  rw [may_u hp hc ok]
  exact k
theorem F_message_number_2.is {p x : Nat} {Q : Bool → Heap → Prop} (hp : p < 18) (hc : pc p = 0) (C : cellsAre h (pt b 0) (mgC m)) (c1 : cellsAre h (pt x 0) [Kd.enc .fn (atV p)]) (k : Q (zeroB p m) h) : F_message_number_2 (some (pt b 0)) (pt x 0) h Q := by
  rw [F_message_number_2.eq_1, F_message_number_2_of.eq_1]
  refine ld_are c1 (ldL_c (ldL_n ?_))
  refine at_num hp hc ⟨rfl, rfl, rfl, rfl, rfl, rfl, rfl, rfl, rfl⟩ ?_
  simp only [nn_some, pt_add, Nat.zero_add, Nat.add_zero, Nat.reduceAdd, Nat.reduceMul, Int.toNat_zero, Int.toNat_one, Nat.zero_mul, Nat.one_mul]
  refine ld_u hp hc C ?_
  rw [zero_u hp (.inl hc)]
  exact k
theorem F_message_small_1.is {p x y : Nat} {Q : Bool → Heap → Prop} (hp : p < 18) (hc : pc p = 1) (C : cellsAre h (pt b 0) (mgC m)) (c1 : cellsAre h (pt x 0) [Kd.enc .fn (atV p)]) (c2 : cellsAre h (pt y 0) [.int .i64 (pmax p : Nat)]) (k : Q (mayB p m) h) : F_message_small_1 (some (pt b 0)) (pt x 0) (pt y 0) h Q := by
  rw [F_message_small_1.eq_1, F_message_small_1_of.eq_1]
  refine jn_go ?_
  have h2 : pk p ≠ 2 ∧ p ≠ 17 := by rcases (cas hp hc).2.1 rfl with rfl | rfl | rfl | rfl <;> decide
  have e : mayB p m = decide (0 ≤ pget p m ∧ pget p m ≤ (pmax p : Nat)) := by
    unfold mayB
    rw [if_neg h2.1, if_neg h2.2]
  refine ld_are c1 (ldL_c (ldL_n ?_))
  refine at_sml hp hc ⟨rfl, rfl, rfl, rfl⟩ ?_
  simp only [nn_some, pt_add, Nat.zero_add, Nat.add_zero, Nat.reduceAdd, Nat.reduceMul, Int.toNat_zero, Int.toNat_one, Nat.zero_mul, Nat.one_mul]
  refine ld_i hp hc C ?_
  refine brr_p (fun h1 => ?_) (fun h1 => ?_)
  · refine ld_are c1 (ldL_c (ldL_n ?_))
    refine ld_are c2 (ldL_c (ldL_n ?_))
    refine at_sml hp hc ⟨rfl, rfl, rfl, rfl⟩ ⟨c2, ?_⟩
    simp only [nn_some, pt_add, Nat.zero_add, Nat.add_zero, Nat.reduceAdd, Nat.reduceMul, Int.toNat_zero, Int.toNat_one, Nat.zero_mul, Nat.one_mul]
    refine ld_i hp hc C ?_
    rw [show decide (pget p m ≤ ((pmax p : Nat) : Int)) = mayB p m by rw [e]; simp; omega]
    exact k
  · rw [show false = mayB p m by rw [e]; simp; omega]
    exact k
theorem F_message_small_2.is {p x : Nat} {Q : Bool → Heap → Prop} (hp : p < 18) (hc : pc p = 1) (C : cellsAre h (pt b 0) (mgC m)) (c1 : cellsAre h (pt x 0) [Kd.enc .fn (atV p)]) (k : Q (zeroB p m) h) : F_message_small_2 (some (pt b 0)) (pt x 0) h Q := by
  rw [F_message_small_2.eq_1, F_message_small_2_of.eq_1]
  refine ld_are c1 (ldL_c (ldL_n ?_))
  refine at_sml hp hc ⟨rfl, rfl, rfl, rfl⟩ ?_
  simp only [nn_some, pt_add, Nat.zero_add, Nat.add_zero, Nat.reduceAdd, Nat.reduceMul, Int.toNat_zero, Int.toNat_one, Nat.zero_mul, Nat.one_mul]
  refine ld_i hp hc C ?_
  rw [zero_u hp (.inr hc)]
  exact k
theorem F_message_name_1.is {p x : Nat} {Q : Bool → Heap → Prop} (hp : p < 18) (hc : pc p = 2) (C : cellsAre h (pt b 0) (mgC m)) (c1 : cellsAre h (pt x 0) [Kd.enc .fn (atV p)]) (k : Q (mayB p m) h) : F_message_name_1 (some (pt b 0)) (pt x 0) h Q := by
  rw [F_message_name_1.eq_1, F_message_name_1_of.eq_1]
  refine ld_are c1 (ldL_c (ldL_n ?_))
  refine at_nam hp hc ⟨rfl, rfl⟩ ?_
  simp only [nn_some, pt_add, Nat.zero_add, Nat.add_zero, Nat.reduceAdd, Nat.reduceMul, Int.toNat_zero, Int.toNat_one, Nat.zero_mul, Nat.one_mul]
  refine ld_a hp hc C ?_
  have h2 : pk p = 2 ∧ pmax p = 64 := by rcases (cas hp hc).2.2.1 rfl with rfl | rfl <;> decide
  rw [show decide (((pstr p m).size : Int) ≤ 64) = mayB p m by
    unfold mayB
    rw [if_pos h2.1, h2.2, pstr_len hp hc]
    exact decide_eq_decide.2 (by omega)]
  exact k
theorem F_message_name_2.is {p x : Nat} {Q : Bool → Heap → Prop} (hp : p < 18) (hc : pc p = 2) (C : cellsAre h (pt b 0) (mgC m)) (c1 : cellsAre h (pt x 0) [Kd.enc .fn (atV p)]) (k : Q (zeroB p m) h) : F_message_name_2 (some (pt b 0)) (pt x 0) h Q := by
  rw [F_message_name_2.eq_1, F_message_name_2_of.eq_1]
  refine ld_are c1 (ldL_c (ldL_n ?_))
  refine at_nam hp hc ⟨rfl, rfl⟩ ?_
  simp only [nn_some, pt_add, Nat.zero_add, Nat.add_zero, Nat.reduceAdd, Nat.reduceMul, Int.toNat_zero, Int.toNat_one, Nat.zero_mul, Nat.one_mul]
  refine ld_a hp hc C ?_
  have h2 : pk p = 2 := by rcases (cas hp hc).2.2.1 rfl with rfl | rfl <;> decide
  rw [show ((pstr p m).toList == (⟨#[]⟩ : ByteArray).toList) = zeroB p m by
    unfold zeroB
    rw [if_pos h2, ByteArray.toList_eq, ByteArray.toList_eq, pstr_txt hp hc]
    show (ptxt p m == []) = _
    cases ptxt p m <;> rfl]
  exact k
theorem ldo {ks : List Kd} {o : Nat} {K : Fn ks Prop} (C : cellsAre h (pt b 0) (mgC m)) (hl : ldL ks ((mgC m).drop o) K) : ld ks (pt b o) h K := by
  have := ld_drop C o hl
  rwa [pt_add, Nat.zero_add] at this
theorem F_message_table_5.is {Q : Bool → Heap → Prop} (C : cellsAre h (pt b 0) (mgC m)) (k : Q (mayB 4 m) h) : F_message_table_5 (some (pt b 0)) h Q := by
  rw [F_message_table_5.eq_1, F_message_table_5_of.eq_1]
  refine jn_go ?_
  have e : mayB 4 m = decide (0 ≤ m.span ∧ m.span ≤ ((1025 : Nat) : Int)) := rfl
  simp only [nn_some, pt_add, Nat.zero_add, Nat.add_zero, Nat.reduceAdd, Nat.reduceMul, Int.toNat_zero, Int.toNat_one, Nat.zero_mul, Nat.one_mul]
  refine ldo C (ldL_c (ldL_n ?_))
  refine brr_p (fun h1 => ?_) (fun h1 => ?_)
  · refine ldo C (ldL_c (ldL_n ?_))
    rw [show decide (m.span ≤ 1025) = mayB 4 m by rw [e]; simp; omega]
    exact k
  · rw [show false = mayB 4 m by rw [e]; simp; omega]
    exact k
theorem F_message_table_6.is {Q : Bool → Heap → Prop} (C : cellsAre h (pt b 0) (mgC m)) (k : Q (zeroB 4 m) h) : F_message_table_6 (some (pt b 0)) h Q := by
  rw [F_message_table_6.eq_1, F_message_table_6_of.eq_1]
  simp only [nn_some, pt_add, Nat.zero_add, Nat.add_zero, Nat.reduceAdd, Nat.reduceMul, Int.toNat_zero, Int.toNat_one, Nat.zero_mul, Nat.one_mul]
  exact ldo C (ldL_c (ldL_n k))
theorem F_message_table_10.is {Q : Bool → Heap → Prop} (C : MsgAt h b m) (k : Q (mayB 6 m) h) : F_message_table_10 (some (pt b 0)) h Q := by
  rw [F_message_table_10.eq_1, F_message_table_10_of.eq_1]
  simp only [nn_some, pt_add, Nat.zero_add, Nat.add_zero, Nat.reduceAdd, Nat.reduceMul, Int.toNat_zero, Int.toNat_one, Nat.zero_mul, Nat.one_mul]
  refine ldo C.1 (ldL_s (ldL_n ?_))
  rw [show decide (((m.v.len : Nat) : Int) ≤ 16384) = mayB 6 m by
    show _ = decide (m.b.length ≤ 16384)
    rw [C.2]
    exact decide_eq_decide.2 (by omega)]
  exact k
theorem F_message_table_11.is {Q : Bool → Heap → Prop} (C : MsgAt h b m) (k : Q (zeroB 6 m) h) : F_message_table_11 (some (pt b 0)) h Q := by
  rw [F_message_table_11.eq_1, F_message_table_11_of.eq_1]
  simp only [nn_some, pt_add, Nat.zero_add, Nat.add_zero, Nat.reduceAdd, Nat.reduceMul, Int.toNat_zero, Int.toNat_one, Nat.zero_mul, Nat.one_mul]
  refine ldo C.1 (ldL_s (ldL_n ?_))
  rw [show (((m.v.len : Nat) : Int) == 0) = zeroB 6 m by
    show decide (((m.v.len : Nat) : Int) = 0) = decide (m.b.length = 0)
    rw [C.2]
    exact decide_eq_decide.2 (by omega)]
  exact k
theorem F_message_table_24.is {Q : Bool → Heap → Prop} (C : cellsAre h (pt b 0) (mgC m)) (k : Q (mayB 17 m) h) : F_message_table_24 (some (pt b 0)) h Q := by
  rw [F_message_table_24.eq_1, F_message_table_24_of.eq_1]
  refine jn_go ?_
  have e : mayB 17 m = decide (m.bad = 0 ∨ (300 ≤ m.bad ∧ m.bad ≤ 307)) := rfl
  simp only [nn_some, pt_add, Nat.zero_add, Nat.add_zero, Nat.reduceAdd, Nat.reduceMul, Int.toNat_zero, Int.toNat_one, Nat.zero_mul, Nat.one_mul]
  refine ldo C (ldL_c (ldL_n ?_))
  refine brr_eq (fun h1 => ?_) (fun h1 => ?_)
  · rw [show true = mayB 17 m by rw [e]; simp; omega]
    exact k
  · refine ldo C (ldL_c (ldL_n ?_))
    refine brr_p (fun h1 => ?_) (fun h1 => ?_)
    · refine ldo C (ldL_c (ldL_n ?_))
      rw [show decide (m.bad ≤ 307) = mayB 17 m by rw [e]; exact decide_eq_decide.2 (by omega)]
      exact k
    · rw [show false = mayB 17 m by rw [e]; simp; omega]
      exact k
theorem F_message_table_25.is {Q : Bool → Heap → Prop} (C : cellsAre h (pt b 0) (mgC m)) (k : Q (zeroB 17 m) h) : F_message_table_25 (some (pt b 0)) h Q := by
  rw [F_message_table_25.eq_1, F_message_table_25_of.eq_1]
  simp only [nn_some, pt_add, Nat.zero_add, Nat.add_zero, Nat.reduceAdd, Nat.reduceMul, Int.toNat_zero, Int.toNat_one, Nat.zero_mul, Nat.one_mul]
  exact ldo C (ldL_c (ldL_n k))
structure PureC (Φ : Fns) : Prop where
  table_5 : Φ 61 = E_message_table_5
  table_6 : Φ 62 = E_message_table_6
  table_10 : Φ 68 = E_message_table_10
  table_11 : Φ 69 = E_message_table_11
  table_24 : Φ 87 = E_message_table_24
  table_25 : Φ 88 = E_message_table_25
  number_1 : Φ 122 = E_message_number_1
  number_2 : Φ 123 = E_message_number_2
  small_1 : Φ 134 = E_message_small_1
  small_2 : Φ 135 = E_message_small_2
  name_1 : Φ 138 = E_message_name_1
  name_2 : Φ 139 = E_message_name_2
theorem pmay_is {Φ : Fns} {p : Nat} {v1 v2 v3 v4 : Option FV} {K : Bool → Heap → Prop} (A : PureC Φ) (hp : p < 18) (P : PrimOk T p v1 v2 v3 v4) (ok : Pos m) (C : MsgAt h b m) (B : Bx h T) (k : K (mayB p m) h) : dyn1 .bool Φ (Kd.enc .fn v1) [.pointer (some (pt b 0))] h K := by
  have h4 : pc p < 4 := (cas hp rfl).2.2.2.2
  rcases (by omega : pc p = 0 ∨ pc p = 1 ∨ pc p = 2 ∨ pc p = 3) with hc | hc | hc | hc
  · obtain ⟨x, y, e1, e2, q1, q2, q3, q4⟩ := P.num hc
    subst q1 q2 q3 q4
    refine dyn1_of A.number_1 ?_
    refine Eq.mpr (E_message_number_1.at ..) ?_
    exact F_message_number_1.is hp hc ok C.1 (B _ e1) (B _ e2) k
  · obtain ⟨x, y, e1, e2, q1, q2, q3, q4⟩ := P.sml hc
    subst q1 q2 q3 q4
    refine dyn1_of A.small_1 ?_
    refine Eq.mpr (E_message_small_1.at ..) ?_
    exact F_message_small_1.is hp hc C.1 (B _ e1) (B _ e2) k
  · obtain ⟨x, e1, q1, q2, q3, q4⟩ := P.nam hc
    subst q1 q2 q3 q4
    refine dyn1_of A.name_1 ?_
    refine Eq.mpr (E_message_name_1.at ..) ?_
    exact F_message_name_1.is hp hc C.1 (B _ e1) k
  · rcases (cas hp hc).2.2.2.1 rfl with rfl | rfl | rfl
    · obtain ⟨q1, q2, q3, q4⟩ := P.c4 rfl
      subst q1 q2 q3 q4
      refine dyn1_of A.table_5 ?_
      refine Eq.mpr (E_message_table_5.at ..) ?_
      exact F_message_table_5.is C.1 k
    · obtain ⟨q1, q2, q3, q4⟩ := P.c6 rfl
      subst q1 q2 q3 q4
      refine dyn1_of A.table_10 ?_
      refine Eq.mpr (E_message_table_10.at ..) ?_
      exact F_message_table_10.is C k
    · obtain ⟨q1, q2, q3, q4⟩ := P.c17 rfl
      subst q1 q2 q3 q4
      refine dyn1_of A.table_24 ?_
      refine Eq.mpr (E_message_table_24.at ..) ?_
      exact F_message_table_24.is C.1 k
theorem pzero_is {Φ : Fns} {p : Nat} {v1 v2 v3 v4 : Option FV} {K : Bool → Heap → Prop} (A : PureC Φ) (hp : p < 18) (P : PrimOk T p v1 v2 v3 v4) (ok : Pos m) (C : MsgAt h b m) (B : Bx h T) (k : K (zeroB p m) h) : dyn1 .bool Φ (Kd.enc .fn v2) [.pointer (some (pt b 0))] h K := by
  have h4 : pc p < 4 := (cas hp rfl).2.2.2.2
  rcases (by omega : pc p = 0 ∨ pc p = 1 ∨ pc p = 2 ∨ pc p = 3) with hc | hc | hc | hc
  · obtain ⟨x, y, e1, e2, q1, q2, q3, q4⟩ := P.num hc
    subst q1 q2 q3 q4
    refine dyn1_of A.number_2 ?_
    refine Eq.mpr (E_message_number_2.at ..) ?_
    exact F_message_number_2.is hp hc C.1 (B _ e1) k
  · obtain ⟨x, y, e1, e2, q1, q2, q3, q4⟩ := P.sml hc
    subst q1 q2 q3 q4
    refine dyn1_of A.small_2 ?_
    refine Eq.mpr (E_message_small_2.at ..) ?_
    exact F_message_small_2.is hp hc C.1 (B _ e1) k
  · obtain ⟨x, e1, q1, q2, q3, q4⟩ := P.nam hc
    subst q1 q2 q3 q4
    refine dyn1_of A.name_2 ?_
    refine Eq.mpr (E_message_name_2.at ..) ?_
    exact F_message_name_2.is hp hc C.1 (B _ e1) k
  · rcases (cas hp hc).2.2.2.1 rfl with rfl | rfl | rfl
    · obtain ⟨q1, q2, q3, q4⟩ := P.c4 rfl
      subst q1 q2 q3 q4
      refine dyn1_of A.table_6 ?_
      refine Eq.mpr (E_message_table_6.at ..) ?_
      exact F_message_table_6.is C.1 k
    · obtain ⟨q1, q2, q3, q4⟩ := P.c6 rfl
      subst q1 q2 q3 q4
      refine dyn1_of A.table_11 ?_
      refine Eq.mpr (E_message_table_11.at ..) ?_
      exact F_message_table_11.is C k
    · obtain ⟨q1, q2, q3, q4⟩ := P.c17 rfl
      subst q1 q2 q3 q4
      refine dyn1_of A.table_25 ?_
      refine Eq.mpr (E_message_table_25.at ..) ?_
      exact F_message_table_25.is C.1 k
structure BothC (Φ : Fns) : Prop where
  p : PureC Φ
  both_1 : Φ 126 = E_message_both_1
  both_2 : Φ 127 = E_message_both_2
theorem ld4 {a : Nat} {x0 x1 x2 x3 : Option FV} (C : cellsAre h (pt a 0) [Kd.enc .fn x0, Kd.enc .fn x1, Kd.enc .fn x2, Kd.enc .fn x3]) {K : Option FV → Prop} : (K x0 → ld [.fn] (pt a 0) h K) ∧ (K x1 → ld [.fn] (pt a 1) h K) ∧ (K x2 → ld [.fn] (pt a 2) h K) ∧ (K x3 → ld [.fn] (pt a 3) h K) := by
  have key : ∀ o, ldL [.fn] (([Kd.enc .fn x0, Kd.enc .fn x1, Kd.enc .fn x2, Kd.enc .fn x3] : List Value).drop o) K → ld [.fn] (pt a o) h K := fun o hl => by
    have := ld_drop C o hl
    rwa [pt_add, Nat.zero_add] at this
  exact ⟨fun k => key 0 (ldL_c (ldL_n k)), fun k => key 1 (ldL_c (ldL_n k)), fun k => key 2 (ldL_c (ldL_n k)), fun k => key 3 (ldL_c (ldL_n k))⟩
theorem F_message_both_1.is {p q x y : Nat} {a1 a2 a3 a4 c1 c2 c3 c4 : Option FV} {Q : Bool → Heap → Prop} (hp : p < 18) (hq : q < 18) (P : PrimOk T p a1 a2 a3 a4) (P2 : PrimOk T q c1 c2 c3 c4) (ok : Pos m) (C : MsgAt h b m) (B : Bx h T) (e1 : cellsAre h (pt x 0) [Kd.enc .fn a1, Kd.enc .fn a2, Kd.enc .fn a3, Kd.enc .fn a4]) (e2 : cellsAre h (pt y 0) [Kd.enc .fn c1, Kd.enc .fn c2, Kd.enc .fn c3, Kd.enc .fn c4]) (k : Q (mayB p m && mayB q m) h) : F_message_both_1 (some (pt b 0)) (pt x 0) (pt y 0) h Q := by
  rw [F_message_both_1.eq_1, F_message_both_1_of.eq_1]
  refine jn_go ?_
  simp only [nn_some, pt_add, Nat.zero_add, Nat.add_zero, Nat.reduceAdd, Nat.reduceMul, Int.toNat_zero, Int.toNat_one, Nat.zero_mul, Nat.one_mul]
  refine (ld4 e1).1 ?_
  refine pmay_is ⟨rfl, rfl, rfl, rfl, rfl, rfl, rfl, rfl, rfl, rfl, rfl, rfl⟩ hp P ok C B ?_
  refine brr_of (fun h1 => ?_) (fun h1 => ?_)
  · refine (ld4 e2).1 ?_
    refine pmay_is ⟨rfl, rfl, rfl, rfl, rfl, rfl, rfl, rfl, rfl, rfl, rfl, rfl⟩ hq P2 ok C B ?_
    rwa [h1, Bool.true_and] at k
  · rwa [h1, Bool.false_and] at k
theorem F_message_both_2.is {p q x y : Nat} {a1 a2 a3 a4 c1 c2 c3 c4 : Option FV} {Q : Bool → Heap → Prop} (hp : p < 18) (hq : q < 18) (P : PrimOk T p a1 a2 a3 a4) (P2 : PrimOk T q c1 c2 c3 c4) (ok : Pos m) (C : MsgAt h b m) (B : Bx h T) (e1 : cellsAre h (pt x 0) [Kd.enc .fn a1, Kd.enc .fn a2, Kd.enc .fn a3, Kd.enc .fn a4]) (e2 : cellsAre h (pt y 0) [Kd.enc .fn c1, Kd.enc .fn c2, Kd.enc .fn c3, Kd.enc .fn c4]) (k : Q (zeroB p m && zeroB q m) h) : F_message_both_2 (some (pt b 0)) (pt x 0) (pt y 0) h Q := by
  rw [F_message_both_2.eq_1, F_message_both_2_of.eq_1]
  refine jn_go ?_
  simp only [nn_some, pt_add, Nat.zero_add, Nat.add_zero, Nat.reduceAdd, Nat.reduceMul, Int.toNat_zero, Int.toNat_one, Nat.zero_mul, Nat.one_mul]
  refine (ld4 e1).2.1 ?_
  refine pzero_is ⟨rfl, rfl, rfl, rfl, rfl, rfl, rfl, rfl, rfl, rfl, rfl, rfl⟩ hp P ok C B ?_
  refine brr_of (fun h1 => ?_) (fun h1 => ?_)
  · refine (ld4 e2).2.1 ?_
    refine pzero_is ⟨rfl, rfl, rfl, rfl, rfl, rfl, rfl, rfl, rfl, rfl, rfl, rfl⟩ hq P2 ok C B ?_
    rwa [h1, Bool.true_and] at k
  · rwa [h1, Bool.false_and] at k
def mayF (f : Nat) (m : Mg) : Bool := (fp f).all fun p => mayB p m
theorem fmay_is {Φ : Fns} {f : Nat} {v1 v2 v3 v4 : Option FV} {K : Bool → Heap → Prop} (A : BothC Φ) (F : FieldOk T f v1 v2 v3 v4) (ok : Pos m) (C : MsgAt h b m) (B : Bx h T) (k : K (mayF f m) h) : dyn1 .bool Φ (Kd.enc .fn v1) [.pointer (some (pt b 0))] h K := by
  unfold mayF at k
  rcases F with ⟨p, hp, e, P⟩ | ⟨p, q, x, y, a1, a2, a3, a4, c1, c2, c3, c4, hp, hq, e, e1, e2, P, P2, q1, q2, q3, q4⟩
  · rw [e] at k
    refine pmay_is A.p hp P ok C B ?_
    simpa using k
  · subst q1 q2 q3 q4
    rw [e] at k
    refine dyn1_of A.both_1 ?_
    refine Eq.mpr (E_message_both_1.at ..) ?_
    have k2 : K (mayB p m && mayB q m) h := by simpa using k
    exact F_message_both_1.is hp hq P P2 ok C B (B _ e1) (B _ e2) k2
def zeroF (f : Nat) (m : Mg) : Bool := (fp f).all fun p => zeroB p m
theorem fzero_is {Φ : Fns} {f : Nat} {v1 v2 v3 v4 : Option FV} {K : Bool → Heap → Prop} (A : BothC Φ) (F : FieldOk T f v1 v2 v3 v4) (ok : Pos m) (C : MsgAt h b m) (B : Bx h T) (k : K (zeroF f m) h) : dyn1 .bool Φ (Kd.enc .fn v2) [.pointer (some (pt b 0))] h K := by
  unfold zeroF at k
  rcases F with ⟨p, hp, e, P⟩ | ⟨p, q, x, y, a1, a2, a3, a4, c1, c2, c3, c4, hp, hq, e, e1, e2, P, P2, q1, q2, q3, q4⟩
  · rw [e] at k
    refine pzero_is A.p hp P ok C B ?_
    simpa using k
  · subst q1 q2 q3 q4
    rw [e] at k
    refine dyn1_of A.both_2 ?_
    refine Eq.mpr (E_message_both_2.at ..) ?_
    have k2 : K (zeroB p m && zeroB q m) h := by simpa using k
    exact F_message_both_2.is hp hq P P2 ok C B (B _ e1) (B _ e2) k2
end
end Go.Proofs.YthiginhigfieiaaGreatDoor.V
