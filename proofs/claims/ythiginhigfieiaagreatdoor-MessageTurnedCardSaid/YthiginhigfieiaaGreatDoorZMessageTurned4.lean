import Derived.Test.YthiginhigfieiaaGreatDoorZMessageTurned3
import Derived.Test.YthiginhigfieiaaGreatDoorProg
import Derived.Lib.LaidTab
import Derived.Deep.DeepAppendWide
/- The document's own look at messages: EqMsg, Only, May. -/
namespace Go.Proofs.YthiginhigfieiaaGreatDoor.V
open Go Go.RowKit
set_option linter.unusedVariables false
set_option linter.unusedSimpArgs false
section
variable {h0 h : Heap} {L : List Res} {b : Nat} {m n : Mg}
theorem bare_ext {a b : Mg} (h1 : a.kind = b.kind) (h2 : a.frm = b.frm) (h3 : a.to = b.to) (h4 : a.shard = b.shard) (n0 : a.epoch = b.epoch) (n1 : a.te = b.te) (n2 : a.ts = b.ts) (n3 : a.round = b.round) (n4 : a.span = b.span) (n5 : a.seen = b.seen) (t6 : a.b = b.b) (n7 : a.peer = b.peer) (n8 : a.num = b.num) (t9 : a.name = b.name) (t10 : a.other = b.other) (n11 : a.amount = b.amount) (n12 : a.life = b.life) (n13 : a.id = b.id) (n14 : a.op = b.op) (n15 : a.client = b.client) (n16 : a.state = b.state) (n17 : a.bad = b.bad) : a.bare = b.bare := by
  cases a; cases b
  simp only at *
  subst h1 h2 h3 h4 n0 n1 n2 n3 n4 n5 n7 n8 n11 n12 n13 n14 n15 n16 n17 t6 t9 t10
  rfl
theorem bareE {α : Type} (f : Mg → α) (g : m.bare = n.bare) : f m.bare = f n.bare := congrArg f g
theorem and3 {a b c d : Int} : ((a == b) && ((c == d) && true)) = true ↔ a = b ∧ c = d := by simp
theorem bat {a b : ByteArray} : (a.toList == b.toList) = true ↔ a = b := by
  rw [ByteArray.toList_eq, ByteArray.toList_eq]
  constructor
  · intro e
    exact ba_ext (by simpa using e)
  · intro e
    rw [e]
    simp
theorem F_ref0_EqMsg.is {Q : Bool → Heap → Prop} (O : Sat h0 h L) (V1 : Stays h0 L fun h => Bytes h m.v m.b) (V2 : Stays h0 L fun h => Bytes h n.v n.b) (h1 : m.b.length < 4611686018427387904) (h2 : n.b.length < 4611686018427387904) (k : ∀ z h', Sat h0 h' L → (z = true ↔ m.bare = n.bare) → Q z h') : F_ref0_EqMsg m.kind m.frm m.to m.shard m.epoch m.te m.ts m.round m.span m.seen m.v m.peer m.num m.name m.other m.amount m.life m.id m.op m.client m.state m.bad n.kind n.frm n.to n.shard n.epoch n.te n.ts n.round n.span n.seen n.v n.peer n.num n.name n.other n.amount n.life n.id n.op n.client n.state n.bad h Q := by
  rw [F_ref0_EqMsg.eq_1, F_ref0_EqMsg_of.eq_1]
  refine O.al fun x45 h O => ?_
  refine O.al fun x47 h O => ?_
  refine jn1 (fun (z : Bool) h' => h' = h ∧ (z = true ↔ m.bare = n.bare)) (fun z h' ⟨e, e2⟩ => by subst e; exact k _ _ O.drop.drop e2) fun j hj => ?_
  have no : ∀ {p : Prop}, ¬ p → (m.bare = n.bare → p) → j false h := fun hp hi => hj _ _ ⟨rfl, ⟨fun e => absurd e (by decide), fun g => absurd (hi g) hp⟩⟩
  repeat (first | (with_reducible refine al_id ?_); refine O.al fun _ h O => ?_ | (with_reducible refine nn_id ?_); refine ⟨_, rfl, ?_⟩ | (with_reducible refine ld_id ?_); (first | refine O.ld 0 rfl ?_ | refine O.ld 1 rfl ?_); (repeat (first | (with_reducible refine ldL_n ?_) | refine ldL_s ?_ | refine ldL_c ?_)) | (with_reducible refine st_ad (by first | (with_reducible rfl) | (simp only [pt_add, Nat.zero_add, Nat.add_zero, Nat.reduceAdd]; with_reducible rfl)) ?_); (first | refine O.st 0 rfl (by simp) rfl fun h O => ?_ | refine O.st 1 rfl (by simp) rfl fun h O => ?_); (dsimp only [V.put, List.set, List.length_cons, List.length_nil] at O) | (with_reducible refine ca_id ?_); (first | refine O.ca 0 1 rfl ?_ | refine O.ca 0 2 rfl ?_ | refine O.ca 1 1 rfl ?_ | refine O.ca 1 2 rfl ?_))
  refine brr_of (fun e1 => ?_) (fun e1 => no (p := m.kind = n.kind ∧ m.frm = n.frm ∧ m.to = n.to ∧ m.shard = n.shard) (fun g => by rw [g.1, g.2.1, g.2.2.1, g.2.2.2] at e1; simp at e1) fun g => ⟨bareE Mg.kind g, bareE Mg.frm g, bareE Mg.to g, bareE Mg.shard g⟩)
  have e1 : m.kind = n.kind ∧ m.frm = n.frm ∧ m.to = n.to ∧ m.shard = n.shard := by simpa using e1
  repeat (first | (with_reducible refine al_id ?_); refine O.al fun _ h O => ?_ | (with_reducible refine nn_id ?_); refine ⟨_, rfl, ?_⟩ | (with_reducible refine ld_id ?_); (first | refine O.ld 0 rfl ?_ | refine O.ld 1 rfl ?_); (repeat (first | (with_reducible refine ldL_n ?_) | refine ldL_s ?_ | refine ldL_c ?_)) | (with_reducible refine st_ad (by first | (with_reducible rfl) | (simp only [pt_add, Nat.zero_add, Nat.add_zero, Nat.reduceAdd]; with_reducible rfl)) ?_); (first | refine O.st 0 rfl (by simp) rfl fun h O => ?_ | refine O.st 1 rfl (by simp) rfl fun h O => ?_); (dsimp only [V.put, List.set, List.length_cons, List.length_nil] at O) | (with_reducible refine ca_id ?_); (first | refine O.ca 0 1 rfl ?_ | refine O.ca 0 2 rfl ?_ | refine O.ca 1 1 rfl ?_ | refine O.ca 1 2 rfl ?_))
  refine brr_eq (fun e2 => ?_) (fun e => no e fun g => bareE Mg.epoch g)
  repeat (first | (with_reducible refine al_id ?_); refine O.al fun _ h O => ?_ | (with_reducible refine nn_id ?_); refine ⟨_, rfl, ?_⟩ | (with_reducible refine ld_id ?_); (first | refine O.ld 0 rfl ?_ | refine O.ld 1 rfl ?_); (repeat (first | (with_reducible refine ldL_n ?_) | refine ldL_s ?_ | refine ldL_c ?_)) | (with_reducible refine st_ad (by first | (with_reducible rfl) | (simp only [pt_add, Nat.zero_add, Nat.add_zero, Nat.reduceAdd]; with_reducible rfl)) ?_); (first | refine O.st 0 rfl (by simp) rfl fun h O => ?_ | refine O.st 1 rfl (by simp) rfl fun h O => ?_); (dsimp only [V.put, List.set, List.length_cons, List.length_nil] at O) | (with_reducible refine ca_id ?_); (first | refine O.ca 0 1 rfl ?_ | refine O.ca 0 2 rfl ?_ | refine O.ca 1 1 rfl ?_ | refine O.ca 1 2 rfl ?_))
  refine brr_of (fun e3 => ?_) (fun e => no (p := m.te = n.te ∧ m.ts = n.ts) (fun g => by rw [and3.2 g] at e; cases e) fun g => ⟨bareE Mg.te g, bareE Mg.ts g⟩)
  rw [and3] at e3
  repeat (first | (with_reducible refine al_id ?_); refine O.al fun _ h O => ?_ | (with_reducible refine nn_id ?_); refine ⟨_, rfl, ?_⟩ | (with_reducible refine ld_id ?_); (first | refine O.ld 0 rfl ?_ | refine O.ld 1 rfl ?_); (repeat (first | (with_reducible refine ldL_n ?_) | refine ldL_s ?_ | refine ldL_c ?_)) | (with_reducible refine st_ad (by first | (with_reducible rfl) | (simp only [pt_add, Nat.zero_add, Nat.add_zero, Nat.reduceAdd]; with_reducible rfl)) ?_); (first | refine O.st 0 rfl (by simp) rfl fun h O => ?_ | refine O.st 1 rfl (by simp) rfl fun h O => ?_); (dsimp only [V.put, List.set, List.length_cons, List.length_nil] at O) | (with_reducible refine ca_id ?_); (first | refine O.ca 0 1 rfl ?_ | refine O.ca 0 2 rfl ?_ | refine O.ca 1 1 rfl ?_ | refine O.ca 1 2 rfl ?_))
  refine brr_eq (fun e4 => ?_) (fun e => no e fun g => bareE Mg.round g)
  repeat (first | (with_reducible refine al_id ?_); refine O.al fun _ h O => ?_ | (with_reducible refine nn_id ?_); refine ⟨_, rfl, ?_⟩ | (with_reducible refine ld_id ?_); (first | refine O.ld 0 rfl ?_ | refine O.ld 1 rfl ?_); (repeat (first | (with_reducible refine ldL_n ?_) | refine ldL_s ?_ | refine ldL_c ?_)) | (with_reducible refine st_ad (by first | (with_reducible rfl) | (simp only [pt_add, Nat.zero_add, Nat.add_zero, Nat.reduceAdd]; with_reducible rfl)) ?_); (first | refine O.st 0 rfl (by simp) rfl fun h O => ?_ | refine O.st 1 rfl (by simp) rfl fun h O => ?_); (dsimp only [V.put, List.set, List.length_cons, List.length_nil] at O) | (with_reducible refine ca_id ?_); (first | refine O.ca 0 1 rfl ?_ | refine O.ca 0 2 rfl ?_ | refine O.ca 1 1 rfl ?_ | refine O.ca 1 2 rfl ?_))
  refine brr_eq (fun e5 => ?_) (fun e => no e fun g => bareE Mg.span g)
  repeat (first | (with_reducible refine al_id ?_); refine O.al fun _ h O => ?_ | (with_reducible refine nn_id ?_); refine ⟨_, rfl, ?_⟩ | (with_reducible refine ld_id ?_); (first | refine O.ld 0 rfl ?_ | refine O.ld 1 rfl ?_); (repeat (first | (with_reducible refine ldL_n ?_) | refine ldL_s ?_ | refine ldL_c ?_)) | (with_reducible refine st_ad (by first | (with_reducible rfl) | (simp only [pt_add, Nat.zero_add, Nat.add_zero, Nat.reduceAdd]; with_reducible rfl)) ?_); (first | refine O.st 0 rfl (by simp) rfl fun h O => ?_ | refine O.st 1 rfl (by simp) rfl fun h O => ?_); (dsimp only [V.put, List.set, List.length_cons, List.length_nil] at O) | (with_reducible refine ca_id ?_); (first | refine O.ca 0 1 rfl ?_ | refine O.ca 0 2 rfl ?_ | refine O.ca 1 1 rfl ?_ | refine O.ca 1 2 rfl ?_))
  refine brr_eq (fun e6 => ?_) (fun e => no e fun g => bareE Mg.seen g)
  repeat (first | (with_reducible refine al_id ?_); refine O.al fun _ h O => ?_ | (with_reducible refine nn_id ?_); refine ⟨_, rfl, ?_⟩ | (with_reducible refine ld_id ?_); (first | refine O.ld 0 rfl ?_ | refine O.ld 1 rfl ?_); (repeat (first | (with_reducible refine ldL_n ?_) | refine ldL_s ?_ | refine ldL_c ?_)) | (with_reducible refine st_ad (by first | (with_reducible rfl) | (simp only [pt_add, Nat.zero_add, Nat.add_zero, Nat.reduceAdd]; with_reducible rfl)) ?_); (first | refine O.st 0 rfl (by simp) rfl fun h O => ?_ | refine O.st 1 rfl (by simp) rfl fun h O => ?_); (dsimp only [V.put, List.set, List.length_cons, List.length_nil] at O) | (with_reducible refine ca_id ?_); (first | refine O.ca 0 1 rfl ?_ | refine O.ca 0 2 rfl ?_ | refine O.ca 1 1 rfl ?_ | refine O.ca 1 2 rfl ?_))
  refine F_ref0_Cmp.is (V1 h O.drop.drop) (V2 h O.drop.drop) h1 h2 fun r hr => ?_
  refine brr_eq (fun e7 => ?_) (fun e => no (fun g => e (hr.2 g)) fun g => bareE Mg.b g)
  rw [hr] at e7
  repeat (first | (with_reducible refine al_id ?_); refine O.al fun _ h O => ?_ | (with_reducible refine nn_id ?_); refine ⟨_, rfl, ?_⟩ | (with_reducible refine ld_id ?_); (first | refine O.ld 0 rfl ?_ | refine O.ld 1 rfl ?_); (repeat (first | (with_reducible refine ldL_n ?_) | refine ldL_s ?_ | refine ldL_c ?_)) | (with_reducible refine st_ad (by first | (with_reducible rfl) | (simp only [pt_add, Nat.zero_add, Nat.add_zero, Nat.reduceAdd]; with_reducible rfl)) ?_); (first | refine O.st 0 rfl (by simp) rfl fun h O => ?_ | refine O.st 1 rfl (by simp) rfl fun h O => ?_); (dsimp only [V.put, List.set, List.length_cons, List.length_nil] at O) | (with_reducible refine ca_id ?_); (first | refine O.ca 0 1 rfl ?_ | refine O.ca 0 2 rfl ?_ | refine O.ca 1 1 rfl ?_ | refine O.ca 1 2 rfl ?_))
  refine brr_eq (fun e8 => ?_) (fun e => no e fun g => bareE Mg.peer g)
  repeat (first | (with_reducible refine al_id ?_); refine O.al fun _ h O => ?_ | (with_reducible refine nn_id ?_); refine ⟨_, rfl, ?_⟩ | (with_reducible refine ld_id ?_); (first | refine O.ld 0 rfl ?_ | refine O.ld 1 rfl ?_); (repeat (first | (with_reducible refine ldL_n ?_) | refine ldL_s ?_ | refine ldL_c ?_)) | (with_reducible refine st_ad (by first | (with_reducible rfl) | (simp only [pt_add, Nat.zero_add, Nat.add_zero, Nat.reduceAdd]; with_reducible rfl)) ?_); (first | refine O.st 0 rfl (by simp) rfl fun h O => ?_ | refine O.st 1 rfl (by simp) rfl fun h O => ?_); (dsimp only [V.put, List.set, List.length_cons, List.length_nil] at O) | (with_reducible refine ca_id ?_); (first | refine O.ca 0 1 rfl ?_ | refine O.ca 0 2 rfl ?_ | refine O.ca 1 1 rfl ?_ | refine O.ca 1 2 rfl ?_))
  refine brr_eq (fun e9 => ?_) (fun e => no e fun g => bareE Mg.num g)
  repeat (first | (with_reducible refine al_id ?_); refine O.al fun _ h O => ?_ | (with_reducible refine nn_id ?_); refine ⟨_, rfl, ?_⟩ | (with_reducible refine ld_id ?_); (first | refine O.ld 0 rfl ?_ | refine O.ld 1 rfl ?_); (repeat (first | (with_reducible refine ldL_n ?_) | refine ldL_s ?_ | refine ldL_c ?_)) | (with_reducible refine st_ad (by first | (with_reducible rfl) | (simp only [pt_add, Nat.zero_add, Nat.add_zero, Nat.reduceAdd]; with_reducible rfl)) ?_); (first | refine O.st 0 rfl (by simp) rfl fun h O => ?_ | refine O.st 1 rfl (by simp) rfl fun h O => ?_); (dsimp only [V.put, List.set, List.length_cons, List.length_nil] at O) | (with_reducible refine ca_id ?_); (first | refine O.ca 0 1 rfl ?_ | refine O.ca 0 2 rfl ?_ | refine O.ca 1 1 rfl ?_ | refine O.ca 1 2 rfl ?_))
  refine brr_of (fun e10 => ?_) (fun e => no (p := m.name = n.name) (fun g => by rw [bat.2 g] at e; cases e) fun g => bareE Mg.name g)
  rw [bat] at e10
  repeat (first | (with_reducible refine al_id ?_); refine O.al fun _ h O => ?_ | (with_reducible refine nn_id ?_); refine ⟨_, rfl, ?_⟩ | (with_reducible refine ld_id ?_); (first | refine O.ld 0 rfl ?_ | refine O.ld 1 rfl ?_); (repeat (first | (with_reducible refine ldL_n ?_) | refine ldL_s ?_ | refine ldL_c ?_)) | (with_reducible refine st_ad (by first | (with_reducible rfl) | (simp only [pt_add, Nat.zero_add, Nat.add_zero, Nat.reduceAdd]; with_reducible rfl)) ?_); (first | refine O.st 0 rfl (by simp) rfl fun h O => ?_ | refine O.st 1 rfl (by simp) rfl fun h O => ?_); (dsimp only [V.put, List.set, List.length_cons, List.length_nil] at O) | (with_reducible refine ca_id ?_); (first | refine O.ca 0 1 rfl ?_ | refine O.ca 0 2 rfl ?_ | refine O.ca 1 1 rfl ?_ | refine O.ca 1 2 rfl ?_))
  refine brr_of (fun e11 => ?_) (fun e => no (p := m.other = n.other) (fun g => by rw [bat.2 g] at e; cases e) fun g => bareE Mg.other g)
  rw [bat] at e11
  repeat (first | (with_reducible refine al_id ?_); refine O.al fun _ h O => ?_ | (with_reducible refine nn_id ?_); refine ⟨_, rfl, ?_⟩ | (with_reducible refine ld_id ?_); (first | refine O.ld 0 rfl ?_ | refine O.ld 1 rfl ?_); (repeat (first | (with_reducible refine ldL_n ?_) | refine ldL_s ?_ | refine ldL_c ?_)) | (with_reducible refine st_ad (by first | (with_reducible rfl) | (simp only [pt_add, Nat.zero_add, Nat.add_zero, Nat.reduceAdd]; with_reducible rfl)) ?_); (first | refine O.st 0 rfl (by simp) rfl fun h O => ?_ | refine O.st 1 rfl (by simp) rfl fun h O => ?_); (dsimp only [V.put, List.set, List.length_cons, List.length_nil] at O) | (with_reducible refine ca_id ?_); (first | refine O.ca 0 1 rfl ?_ | refine O.ca 0 2 rfl ?_ | refine O.ca 1 1 rfl ?_ | refine O.ca 1 2 rfl ?_))
  refine brr_eq (fun e12 => ?_) (fun e => no e fun g => bareE Mg.amount g)
  repeat (first | (with_reducible refine al_id ?_); refine O.al fun _ h O => ?_ | (with_reducible refine nn_id ?_); refine ⟨_, rfl, ?_⟩ | (with_reducible refine ld_id ?_); (first | refine O.ld 0 rfl ?_ | refine O.ld 1 rfl ?_); (repeat (first | (with_reducible refine ldL_n ?_) | refine ldL_s ?_ | refine ldL_c ?_)) | (with_reducible refine st_ad (by first | (with_reducible rfl) | (simp only [pt_add, Nat.zero_add, Nat.add_zero, Nat.reduceAdd]; with_reducible rfl)) ?_); (first | refine O.st 0 rfl (by simp) rfl fun h O => ?_ | refine O.st 1 rfl (by simp) rfl fun h O => ?_); (dsimp only [V.put, List.set, List.length_cons, List.length_nil] at O) | (with_reducible refine ca_id ?_); (first | refine O.ca 0 1 rfl ?_ | refine O.ca 0 2 rfl ?_ | refine O.ca 1 1 rfl ?_ | refine O.ca 1 2 rfl ?_))
  refine brr_of (fun e13 => ?_) (fun e => no (p := m.life = n.life ∧ m.id = n.id) (fun g => by rw [and3.2 g] at e; cases e) fun g => ⟨bareE Mg.life g, bareE Mg.id g⟩)
  rw [and3] at e13
  repeat (first | (with_reducible refine al_id ?_); refine O.al fun _ h O => ?_ | (with_reducible refine nn_id ?_); refine ⟨_, rfl, ?_⟩ | (with_reducible refine ld_id ?_); (first | refine O.ld 0 rfl ?_ | refine O.ld 1 rfl ?_); (repeat (first | (with_reducible refine ldL_n ?_) | refine ldL_s ?_ | refine ldL_c ?_)) | (with_reducible refine st_ad (by first | (with_reducible rfl) | (simp only [pt_add, Nat.zero_add, Nat.add_zero, Nat.reduceAdd]; with_reducible rfl)) ?_); (first | refine O.st 0 rfl (by simp) rfl fun h O => ?_ | refine O.st 1 rfl (by simp) rfl fun h O => ?_); (dsimp only [V.put, List.set, List.length_cons, List.length_nil] at O) | (with_reducible refine ca_id ?_); (first | refine O.ca 0 1 rfl ?_ | refine O.ca 0 2 rfl ?_ | refine O.ca 1 1 rfl ?_ | refine O.ca 1 2 rfl ?_))
  refine brr_eq (fun e14 => ?_) (fun e => no e fun g => bareE Mg.op g)
  repeat (first | (with_reducible refine al_id ?_); refine O.al fun _ h O => ?_ | (with_reducible refine nn_id ?_); refine ⟨_, rfl, ?_⟩ | (with_reducible refine ld_id ?_); (first | refine O.ld 0 rfl ?_ | refine O.ld 1 rfl ?_); (repeat (first | (with_reducible refine ldL_n ?_) | refine ldL_s ?_ | refine ldL_c ?_)) | (with_reducible refine st_ad (by first | (with_reducible rfl) | (simp only [pt_add, Nat.zero_add, Nat.add_zero, Nat.reduceAdd]; with_reducible rfl)) ?_); (first | refine O.st 0 rfl (by simp) rfl fun h O => ?_ | refine O.st 1 rfl (by simp) rfl fun h O => ?_); (dsimp only [V.put, List.set, List.length_cons, List.length_nil] at O) | (with_reducible refine ca_id ?_); (first | refine O.ca 0 1 rfl ?_ | refine O.ca 0 2 rfl ?_ | refine O.ca 1 1 rfl ?_ | refine O.ca 1 2 rfl ?_))
  refine brr_eq (fun e15 => ?_) (fun e => no e fun g => bareE Mg.client g)
  repeat (first | (with_reducible refine al_id ?_); refine O.al fun _ h O => ?_ | (with_reducible refine nn_id ?_); refine ⟨_, rfl, ?_⟩ | (with_reducible refine ld_id ?_); (first | refine O.ld 0 rfl ?_ | refine O.ld 1 rfl ?_); (repeat (first | (with_reducible refine ldL_n ?_) | refine ldL_s ?_ | refine ldL_c ?_)) | (with_reducible refine st_ad (by first | (with_reducible rfl) | (simp only [pt_add, Nat.zero_add, Nat.add_zero, Nat.reduceAdd]; with_reducible rfl)) ?_); (first | refine O.st 0 rfl (by simp) rfl fun h O => ?_ | refine O.st 1 rfl (by simp) rfl fun h O => ?_); (dsimp only [V.put, List.set, List.length_cons, List.length_nil] at O) | (with_reducible refine ca_id ?_); (first | refine O.ca 0 1 rfl ?_ | refine O.ca 0 2 rfl ?_ | refine O.ca 1 1 rfl ?_ | refine O.ca 1 2 rfl ?_))
  refine brr_eq (fun e16 => ?_) (fun e => no e fun g => bareE Mg.state g)
  repeat (first | (with_reducible refine al_id ?_); refine O.al fun _ h O => ?_ | (with_reducible refine nn_id ?_); refine ⟨_, rfl, ?_⟩ | (with_reducible refine ld_id ?_); (first | refine O.ld 0 rfl ?_ | refine O.ld 1 rfl ?_); (repeat (first | (with_reducible refine ldL_n ?_) | refine ldL_s ?_ | refine ldL_c ?_)) | (with_reducible refine st_ad (by first | (with_reducible rfl) | (simp only [pt_add, Nat.zero_add, Nat.add_zero, Nat.reduceAdd]; with_reducible rfl)) ?_); (first | refine O.st 0 rfl (by simp) rfl fun h O => ?_ | refine O.st 1 rfl (by simp) rfl fun h O => ?_); (dsimp only [V.put, List.set, List.length_cons, List.length_nil] at O) | (with_reducible refine ca_id ?_); (first | refine O.ca 0 1 rfl ?_ | refine O.ca 0 2 rfl ?_ | refine O.ca 1 1 rfl ?_ | refine O.ca 1 2 rfl ?_))
  refine hj _ _ ⟨rfl, ?_⟩
  constructor
  · intro e
    have e : m.bad = n.bad := by simpa using e
    exact bare_ext e1.1 e1.2.1 e1.2.2.1 e1.2.2.2 e2 e3.1 e3.2 e4 e5 e6 e7 e8 e9 e10 e11 e12 e13.1 e13.2 e14 e15 e16 e
  · intro g
    have : m.bad = n.bad := bareE Mg.bad g
    simpa using this
def hdM (m : Mg) : Mg := { mgz with kind := m.kind, frm := m.frm, to := m.to, shard := m.shard }
def onlyM (m : Mg) : Mg := { (kp m.kind).foldl (putMg m) (hdM m) with v := if 6 ∈ kp m.kind then m.v else ⟨none, 0, 0⟩ }
theorem kp_none {k : Int} (h : ¬ (1 ≤ k ∧ k ≤ 11)) : kp k = [] := by
  unfold kp
  by_cases h0 : k.toNat = 0
  · rw [h0]; rfl
  · generalize hn : k.toNat = n at *
    match n, h0, hn with
    | 0, h0, _ => exact absurd rfl h0
    | 1, _, hn => exact absurd ⟨by omega, by omega⟩ h
    | 2, _, hn => exact absurd ⟨by omega, by omega⟩ h
    | 3, _, hn => exact absurd ⟨by omega, by omega⟩ h
    | 4, _, hn => exact absurd ⟨by omega, by omega⟩ h
    | 5, _, hn => exact absurd ⟨by omega, by omega⟩ h
    | 6, _, hn => exact absurd ⟨by omega, by omega⟩ h
    | 7, _, hn => exact absurd ⟨by omega, by omega⟩ h
    | 8, _, hn => exact absurd ⟨by omega, by omega⟩ h
    | 9, _, hn => exact absurd ⟨by omega, by omega⟩ h
    | 10, _, hn => exact absurd ⟨by omega, by omega⟩ h
    | 11, _, hn => exact absurd ⟨by omega, by omega⟩ h
    | _ + 12, _, _ => rfl
theorem mgC_ldA {K : Int → Int → Int → Int → Int → Int → Int → Int → Int → Int → Sl → Int → Int → ByteArray → ByteArray → Int → Int → Int → Int → Int → Int → Int → Prop} (k : K m.kind m.frm m.to m.shard m.epoch m.te m.ts m.round m.span m.seen m.v m.peer m.num m.name m.other m.amount m.life m.id m.op m.client m.state m.bad) : ldL K22 (mgC m) K := (ldL_c (ldL_c (ldL_c (ldL_c (ldL_c (ldL_c (ldL_c (ldL_c (ldL_c (ldL_c (ldL_s (ldL_c (ldL_c (ldL_c (ldL_c (ldL_c (ldL_c (ldL_c (ldL_c (ldL_c (ldL_c (ldL_c (ldL_n k)))))))))))))))))))))))
theorem onlyM_1 (e : m.kind = 1) : onlyM m = { hdM m with epoch := m.epoch } := by
  unfold onlyM kp
  rw [e]
  rfl
theorem onlyM_2 (e : m.kind = 2) : onlyM m = { hdM m with epoch := m.epoch, te := m.te, ts := m.ts, b := m.b, v := m.v } := by
  unfold onlyM kp
  rw [e]
  rfl
theorem onlyM_3 (e : m.kind = 3) : onlyM m = { hdM m with epoch := m.epoch, seen := m.seen } := by
  unfold onlyM kp
  rw [e]
  rfl
theorem onlyM_4 (e : m.kind = 4) : onlyM m = { hdM m with te := m.te, ts := m.ts, span := m.span, b := m.b, v := m.v } := by
  unfold onlyM kp
  rw [e]
  rfl
theorem onlyM_5 (e : m.kind = 5) : onlyM m = { hdM m with te := m.te, ts := m.ts } := by
  unfold onlyM kp
  rw [e]
  rfl
theorem onlyM_6 (e : m.kind = 6) : onlyM m = { hdM m with epoch := m.epoch, round := m.round, span := m.span } := by
  unfold onlyM kp
  rw [e]
  rfl
theorem onlyM_7 (e : m.kind = 7) : onlyM m = { hdM m with epoch := m.epoch, round := m.round } := by
  unfold onlyM kp
  rw [e]
  rfl
theorem onlyM_8 (e : m.kind = 8) : onlyM m = { hdM m with peer := m.peer, num := m.num, name := m.name, amount := m.amount } := by
  unfold onlyM kp
  rw [e]
  rfl
theorem onlyM_9 (e : m.kind = 9) : onlyM m = { hdM m with peer := m.peer, num := m.num } := by
  unfold onlyM kp
  rw [e]
  rfl
theorem onlyM_10 (e : m.kind = 10) : onlyM m = { hdM m with num := m.num, name := m.name, other := m.other, amount := m.amount, life := m.life, id := m.id, op := m.op, client := m.client } := by
  unfold onlyM kp
  rw [e]
  simp [kpN, putMg, pset, pget, ptxt, hdM, mgz]
theorem onlyM_11 (e : m.kind = 11) : onlyM m = { hdM m with amount := m.amount, life := m.life, id := m.id, state := m.state, bad := m.bad } := by
  unfold onlyM kp
  rw [e]
  rfl
set_option maxRecDepth 20000 in
theorem F_ref8_Only.is {Q : YQ} (O : Sat h0 h L) (k : ∀ h', Sat h0 h' L → Q (onlyM m).kind (onlyM m).frm (onlyM m).to (onlyM m).shard (onlyM m).epoch (onlyM m).te (onlyM m).ts (onlyM m).round (onlyM m).span (onlyM m).seen (onlyM m).v (onlyM m).peer (onlyM m).num (onlyM m).name (onlyM m).other (onlyM m).amount (onlyM m).life (onlyM m).id (onlyM m).op (onlyM m).client (onlyM m).state (onlyM m).bad h') : F_ref8_Only m.kind m.frm m.to m.shard m.epoch m.te m.ts m.round m.span m.seen m.v m.peer m.num m.name m.other m.amount m.life m.id m.op m.client m.state m.bad h Q := by
  rw [F_ref8_Only.eq_1, F_ref8_Only_of.eq_1]
  refine O.al fun a h O => ?_
  refine O.al fun c h O => ?_
  simp only [nn_some, pt_add, Nat.zero_add, Nat.add_zero, Nat.reduceAdd, Nat.reduceMul, Int.toNat_zero, Int.toNat_one, Nat.zero_mul, Nat.one_mul]
  refine O.ld 1 rfl (ldL_c (ldL_c (ldL_c (ldL_c (ldL_n ?_)))))
  refine O.al fun x h O => ?_
  refine O.st 0 rfl (by simp) rfl fun h O => ?_
  dsimp only [V.put, List.set] at O
  refine O.ld 2 rfl (ldL_c (ldL_n ?_))
  have O := O.sel [0, 2, 1] 3 rfl (Nat.le_add_left _ _)
  simp only [selT, List.map, nth, List.drop, List.cons_append, List.nil_append] at O
  have O : Sat h0 h (own x (mgC (hdM m)) :: own a (mgC m) :: own c (mgC mgz) :: L) := O
  refine jn0 (fun h' => ∃ x', x' = x ∧ Sat h0 h' (own x (mgC (onlyM m)) :: own a (mgC m) :: own c (mgC mgz) :: L)) ?_ ?_
  · clear O
    rintro h ⟨_, _, O⟩
    refine O.ld 0 rfl ?_
    refine mgC_ldA ?_
    refine O.st 2 rfl (by simp [mgC]) rfl fun h O => ?_
    dsimp only [List.set] at O
    rw [put_all (by rfl)] at O
    have O : Sat h0 h (own x (mgC (onlyM m)) :: own a (mgC m) :: own c (mgC (onlyM m)) :: L) := O
    refine O.ld 2 rfl ?_
    refine mgC_ldA ?_
    exact k h O.drop.drop.drop
  · intro j hj
    refine brr_eq (fun e => ?_) (fun n1 => ?_)
    · unfold mgC at O
      repeat (first | (with_reducible refine al_id ?_); refine O.al fun _ h O => ?_ | (with_reducible refine nn_id ?_); refine ⟨_, rfl, ?_⟩ | (with_reducible refine ld_id ?_); (first | refine O.ld 0 rfl ?_ | refine O.ld 1 rfl ?_); (repeat (first | (with_reducible refine ldL_n ?_) | refine ldL_s ?_ | refine ldL_c ?_)) | (with_reducible refine st_ad (by first | (with_reducible rfl) | (simp only [pt_add, Nat.zero_add, Nat.add_zero, Nat.reduceAdd]; with_reducible rfl)) ?_); (first | refine O.st 0 rfl (by simp) rfl fun h O => ?_ | refine O.st 1 rfl (by simp) rfl fun h O => ?_); (dsimp only [V.put, List.set, List.length_cons, List.length_nil] at O) | (with_reducible refine ca_id ?_); (first | refine O.ca 0 1 rfl ?_ | refine O.ca 0 2 rfl ?_ | refine O.ca 1 1 rfl ?_ | refine O.ca 1 2 rfl ?_))
      refine hj _ ⟨x, rfl, ?_⟩
      rw [onlyM_1 e]
      exact O
    refine jn_go ?_
    refine brr_eq (fun e => ?_) (fun n2 => ?_)
    · unfold mgC at O
      repeat (first | (with_reducible refine al_id ?_); refine O.al fun _ h O => ?_ | (with_reducible refine nn_id ?_); refine ⟨_, rfl, ?_⟩ | (with_reducible refine ld_id ?_); (first | refine O.ld 0 rfl ?_ | refine O.ld 1 rfl ?_); (repeat (first | (with_reducible refine ldL_n ?_) | refine ldL_s ?_ | refine ldL_c ?_)) | (with_reducible refine st_ad (by first | (with_reducible rfl) | (simp only [pt_add, Nat.zero_add, Nat.add_zero, Nat.reduceAdd]; with_reducible rfl)) ?_); (first | refine O.st 0 rfl (by simp) rfl fun h O => ?_ | refine O.st 1 rfl (by simp) rfl fun h O => ?_); (dsimp only [V.put, List.set, List.length_cons, List.length_nil] at O) | (with_reducible refine ca_id ?_); (first | refine O.ca 0 1 rfl ?_ | refine O.ca 0 2 rfl ?_ | refine O.ca 1 1 rfl ?_ | refine O.ca 1 2 rfl ?_))
      refine hj _ ⟨x, rfl, ?_⟩
      rw [onlyM_2 e]
      exact O
    refine jn_go ?_
    refine brr_eq (fun e => ?_) (fun n3 => ?_)
    · unfold mgC at O
      repeat (first | (with_reducible refine al_id ?_); refine O.al fun _ h O => ?_ | (with_reducible refine nn_id ?_); refine ⟨_, rfl, ?_⟩ | (with_reducible refine ld_id ?_); (first | refine O.ld 0 rfl ?_ | refine O.ld 1 rfl ?_); (repeat (first | (with_reducible refine ldL_n ?_) | refine ldL_s ?_ | refine ldL_c ?_)) | (with_reducible refine st_ad (by first | (with_reducible rfl) | (simp only [pt_add, Nat.zero_add, Nat.add_zero, Nat.reduceAdd]; with_reducible rfl)) ?_); (first | refine O.st 0 rfl (by simp) rfl fun h O => ?_ | refine O.st 1 rfl (by simp) rfl fun h O => ?_); (dsimp only [V.put, List.set, List.length_cons, List.length_nil] at O) | (with_reducible refine ca_id ?_); (first | refine O.ca 0 1 rfl ?_ | refine O.ca 0 2 rfl ?_ | refine O.ca 1 1 rfl ?_ | refine O.ca 1 2 rfl ?_))
      refine hj _ ⟨x, rfl, ?_⟩
      rw [onlyM_3 e]
      exact O
    refine jn_go ?_
    refine brr_eq (fun e => ?_) (fun n4 => ?_)
    · unfold mgC at O
      repeat (first | (with_reducible refine al_id ?_); refine O.al fun _ h O => ?_ | (with_reducible refine nn_id ?_); refine ⟨_, rfl, ?_⟩ | (with_reducible refine ld_id ?_); (first | refine O.ld 0 rfl ?_ | refine O.ld 1 rfl ?_); (repeat (first | (with_reducible refine ldL_n ?_) | refine ldL_s ?_ | refine ldL_c ?_)) | (with_reducible refine st_ad (by first | (with_reducible rfl) | (simp only [pt_add, Nat.zero_add, Nat.add_zero, Nat.reduceAdd]; with_reducible rfl)) ?_); (first | refine O.st 0 rfl (by simp) rfl fun h O => ?_ | refine O.st 1 rfl (by simp) rfl fun h O => ?_); (dsimp only [V.put, List.set, List.length_cons, List.length_nil] at O) | (with_reducible refine ca_id ?_); (first | refine O.ca 0 1 rfl ?_ | refine O.ca 0 2 rfl ?_ | refine O.ca 1 1 rfl ?_ | refine O.ca 1 2 rfl ?_))
      refine hj _ ⟨x, rfl, ?_⟩
      rw [onlyM_4 e]
      exact O
    refine jn_go ?_
    refine brr_eq (fun e => ?_) (fun n5 => ?_)
    · unfold mgC at O
      repeat (first | (with_reducible refine al_id ?_); refine O.al fun _ h O => ?_ | (with_reducible refine nn_id ?_); refine ⟨_, rfl, ?_⟩ | (with_reducible refine ld_id ?_); (first | refine O.ld 0 rfl ?_ | refine O.ld 1 rfl ?_); (repeat (first | (with_reducible refine ldL_n ?_) | refine ldL_s ?_ | refine ldL_c ?_)) | (with_reducible refine st_ad (by first | (with_reducible rfl) | (simp only [pt_add, Nat.zero_add, Nat.add_zero, Nat.reduceAdd]; with_reducible rfl)) ?_); (first | refine O.st 0 rfl (by simp) rfl fun h O => ?_ | refine O.st 1 rfl (by simp) rfl fun h O => ?_); (dsimp only [V.put, List.set, List.length_cons, List.length_nil] at O) | (with_reducible refine ca_id ?_); (first | refine O.ca 0 1 rfl ?_ | refine O.ca 0 2 rfl ?_ | refine O.ca 1 1 rfl ?_ | refine O.ca 1 2 rfl ?_))
      refine hj _ ⟨x, rfl, ?_⟩
      rw [onlyM_5 e]
      exact O
    refine jn_go ?_
    refine brr_eq (fun e => ?_) (fun n6 => ?_)
    · unfold mgC at O
      repeat (first | (with_reducible refine al_id ?_); refine O.al fun _ h O => ?_ | (with_reducible refine nn_id ?_); refine ⟨_, rfl, ?_⟩ | (with_reducible refine ld_id ?_); (first | refine O.ld 0 rfl ?_ | refine O.ld 1 rfl ?_); (repeat (first | (with_reducible refine ldL_n ?_) | refine ldL_s ?_ | refine ldL_c ?_)) | (with_reducible refine st_ad (by first | (with_reducible rfl) | (simp only [pt_add, Nat.zero_add, Nat.add_zero, Nat.reduceAdd]; with_reducible rfl)) ?_); (first | refine O.st 0 rfl (by simp) rfl fun h O => ?_ | refine O.st 1 rfl (by simp) rfl fun h O => ?_); (dsimp only [V.put, List.set, List.length_cons, List.length_nil] at O) | (with_reducible refine ca_id ?_); (first | refine O.ca 0 1 rfl ?_ | refine O.ca 0 2 rfl ?_ | refine O.ca 1 1 rfl ?_ | refine O.ca 1 2 rfl ?_))
      refine hj _ ⟨x, rfl, ?_⟩
      rw [onlyM_6 e]
      exact O
    refine jn_go ?_
    refine brr_eq (fun e => ?_) (fun n7 => ?_)
    · unfold mgC at O
      repeat (first | (with_reducible refine al_id ?_); refine O.al fun _ h O => ?_ | (with_reducible refine nn_id ?_); refine ⟨_, rfl, ?_⟩ | (with_reducible refine ld_id ?_); (first | refine O.ld 0 rfl ?_ | refine O.ld 1 rfl ?_); (repeat (first | (with_reducible refine ldL_n ?_) | refine ldL_s ?_ | refine ldL_c ?_)) | (with_reducible refine st_ad (by first | (with_reducible rfl) | (simp only [pt_add, Nat.zero_add, Nat.add_zero, Nat.reduceAdd]; with_reducible rfl)) ?_); (first | refine O.st 0 rfl (by simp) rfl fun h O => ?_ | refine O.st 1 rfl (by simp) rfl fun h O => ?_); (dsimp only [V.put, List.set, List.length_cons, List.length_nil] at O) | (with_reducible refine ca_id ?_); (first | refine O.ca 0 1 rfl ?_ | refine O.ca 0 2 rfl ?_ | refine O.ca 1 1 rfl ?_ | refine O.ca 1 2 rfl ?_))
      refine hj _ ⟨x, rfl, ?_⟩
      rw [onlyM_7 e]
      exact O
    refine jn_go ?_
    refine brr_eq (fun e => ?_) (fun n8 => ?_)
    · unfold mgC at O
      repeat (first | (with_reducible refine al_id ?_); refine O.al fun _ h O => ?_ | (with_reducible refine nn_id ?_); refine ⟨_, rfl, ?_⟩ | (with_reducible refine ld_id ?_); (first | refine O.ld 0 rfl ?_ | refine O.ld 1 rfl ?_); (repeat (first | (with_reducible refine ldL_n ?_) | refine ldL_s ?_ | refine ldL_c ?_)) | (with_reducible refine st_ad (by first | (with_reducible rfl) | (simp only [pt_add, Nat.zero_add, Nat.add_zero, Nat.reduceAdd]; with_reducible rfl)) ?_); (first | refine O.st 0 rfl (by simp) rfl fun h O => ?_ | refine O.st 1 rfl (by simp) rfl fun h O => ?_); (dsimp only [V.put, List.set, List.length_cons, List.length_nil] at O) | (with_reducible refine ca_id ?_); (first | refine O.ca 0 1 rfl ?_ | refine O.ca 0 2 rfl ?_ | refine O.ca 1 1 rfl ?_ | refine O.ca 1 2 rfl ?_))
      refine hj _ ⟨x, rfl, ?_⟩
      rw [onlyM_8 e]
      exact O
    refine jn_go ?_
    refine brr_eq (fun e => ?_) (fun n9 => ?_)
    · unfold mgC at O
      repeat (first | (with_reducible refine al_id ?_); refine O.al fun _ h O => ?_ | (with_reducible refine nn_id ?_); refine ⟨_, rfl, ?_⟩ | (with_reducible refine ld_id ?_); (first | refine O.ld 0 rfl ?_ | refine O.ld 1 rfl ?_); (repeat (first | (with_reducible refine ldL_n ?_) | refine ldL_s ?_ | refine ldL_c ?_)) | (with_reducible refine st_ad (by first | (with_reducible rfl) | (simp only [pt_add, Nat.zero_add, Nat.add_zero, Nat.reduceAdd]; with_reducible rfl)) ?_); (first | refine O.st 0 rfl (by simp) rfl fun h O => ?_ | refine O.st 1 rfl (by simp) rfl fun h O => ?_); (dsimp only [V.put, List.set, List.length_cons, List.length_nil] at O) | (with_reducible refine ca_id ?_); (first | refine O.ca 0 1 rfl ?_ | refine O.ca 0 2 rfl ?_ | refine O.ca 1 1 rfl ?_ | refine O.ca 1 2 rfl ?_))
      refine hj _ ⟨x, rfl, ?_⟩
      rw [onlyM_9 e]
      exact O
    refine jn_go ?_
    refine brr_eq (fun e => ?_) (fun n10 => ?_)
    · unfold mgC at O
      repeat (first | (with_reducible refine al_id ?_); refine O.al fun _ h O => ?_ | (with_reducible refine nn_id ?_); refine ⟨_, rfl, ?_⟩ | (with_reducible refine ld_id ?_); (first | refine O.ld 0 rfl ?_ | refine O.ld 1 rfl ?_); (repeat (first | (with_reducible refine ldL_n ?_) | refine ldL_s ?_ | refine ldL_c ?_)) | (with_reducible refine st_ad (by first | (with_reducible rfl) | (simp only [pt_add, Nat.zero_add, Nat.add_zero, Nat.reduceAdd]; with_reducible rfl)) ?_); (first | refine O.st 0 rfl (by simp) rfl fun h O => ?_ | refine O.st 1 rfl (by simp) rfl fun h O => ?_); (dsimp only [V.put, List.set, List.length_cons, List.length_nil] at O) | (with_reducible refine ca_id ?_); (first | refine O.ca 0 1 rfl ?_ | refine O.ca 0 2 rfl ?_ | refine O.ca 1 1 rfl ?_ | refine O.ca 1 2 rfl ?_))
      refine hj _ ⟨x, rfl, ?_⟩
      rw [onlyM_10 e]
      exact O
    refine jn_go ?_
    refine brr_eq (fun e => ?_) (fun n11 => ?_)
    · unfold mgC at O
      repeat (first | (with_reducible refine al_id ?_); refine O.al fun _ h O => ?_ | (with_reducible refine nn_id ?_); refine ⟨_, rfl, ?_⟩ | (with_reducible refine ld_id ?_); (first | refine O.ld 0 rfl ?_ | refine O.ld 1 rfl ?_); (repeat (first | (with_reducible refine ldL_n ?_) | refine ldL_s ?_ | refine ldL_c ?_)) | (with_reducible refine st_ad (by first | (with_reducible rfl) | (simp only [pt_add, Nat.zero_add, Nat.add_zero, Nat.reduceAdd]; with_reducible rfl)) ?_); (first | refine O.st 0 rfl (by simp) rfl fun h O => ?_ | refine O.st 1 rfl (by simp) rfl fun h O => ?_); (dsimp only [V.put, List.set, List.length_cons, List.length_nil] at O) | (with_reducible refine ca_id ?_); (first | refine O.ca 0 1 rfl ?_ | refine O.ca 0 2 rfl ?_ | refine O.ca 1 1 rfl ?_ | refine O.ca 1 2 rfl ?_))
      refine hj _ ⟨x, rfl, ?_⟩
      rw [onlyM_11 e]
      exact O
    have ek : onlyM m = hdM m := by unfold onlyM; rw [kp_none (fun g => by omega)]; rfl
    refine hj _ ⟨x, rfl, ?_⟩
    rw [ek]
    exact O
theorem only_iff : m.bare = (onlyM m).bare ↔ ∀ p < 18, p ∉ kp m.kind → zeroB p m = true := by
  have hz : ∀ p, pget p (hdM m) = 0 ∧ ptxt p (hdM m) = [] := by
    intro p
    refine ⟨?_, ?_⟩
    · unfold pget; split <;> rfl
    · unfold ptxt; split <;> rfl
  constructor
  · intro e p hp hn
    have g := putMg_get (m := m) hp (kp m.kind) (hdM m)
    unfold zeroB
    by_cases h2 : pk p = 2
    · rw [if_pos h2]
      have h3 := (g.2 h2).2 hn
      rw [(hz p).2] at h3
      have h4 : ptxt p m.bare = ptxt p (onlyM m).bare := congrArg (ptxt p) e
      have h4 : ptxt p m = ptxt p (onlyM m) := h4
      have h5 : ptxt p (onlyM m) = [] := h3
      rw [h4, h5]
      rfl
    · rw [if_neg h2]
      have h3 := (g.1 h2).2 hn
      rw [(hz p).1] at h3
      have h4 : pget p m.bare = pget p (onlyM m).bare := congrArg (pget p) e
      have h4 : pget p m = pget p (onlyM m) := h4
      have h5 : pget p (onlyM m) = 0 := h3
      rw [h4, h5]
      rfl
  · intro hall
    obtain ⟨e1, e2, e3, e4, _⟩ := putMg_head (m := m) (kp m.kind) (hdM m)
    refine mg_ext (a := m.bare) (b := (onlyM m).bare) e1.symm e2.symm e3.symm e4.symm rfl (fun p hp h2 => ?_) (fun p hp h2 => ?_)
    · have g := (putMg_get (m := m) hp (kp m.kind) (hdM m)).1 h2
      show pget p m = pget p ((kp m.kind).foldl (putMg m) (hdM m))
      by_cases hm : p ∈ kp m.kind
      · exact (g.1 hm).symm
      · rw [g.2 hm, (hz p).1]
        have := hall p hp hm
        unfold zeroB at this
        rw [if_neg h2] at this
        exact of_decide_eq_true this
    · have g := (putMg_get (m := m) hp (kp m.kind) (hdM m)).2 h2
      show ptxt p m = ptxt p ((kp m.kind).foldl (putMg m) (hdM m))
      by_cases hm : p ∈ kp m.kind
      · exact (g.1 hm).symm
      · rw [g.2 hm, (hz p).2]
        have := hall p hp hm
        unfold zeroB at this
        rw [if_pos h2] at this
        exact List.length_eq_zero_iff.1 (of_decide_eq_true this)
theorem F_ref8_upTo.is {s : Sl} {xs : List Int} {mo : Int} {Q : Bool → Heap → Prop} (V1 : View h 1 (En u64c) s xs) (hl : xs.length ≤ 100) (k : ∀ z : Bool, (z = true ↔ ∀ x ∈ xs, x ≤ mo) → Q z h) : F_ref8_upTo mo s h Q := by
  rw [F_ref8_upTo.eq_1, F_ref8_upTo_of.eq_1]
  refine jn_go ?_
  rw [F_ref8_upTo.l1.eq_1, V1.len]
  refine wl1 (k := .int .i64) (fun (n : Nat) (i : Int) (h' : Heap) => h' = h ∧ 0 ≤ i ∧ i + n = xs.length ∧ ∀ x ∈ xs.take i.toNat, x ≤ mo) ?_ (m := xs.length) ⟨rfl, by omega, by omega, by simp⟩
  rintro n (i : Int) h next hnx ⟨rfl, hi0, him, hall⟩
  refine brr_p (fun hlt => ?_) (fun hlt => ?_)
  · have hx : xs[i.toNat]? = some (xs[i.toNat]'(by omega)) := List.getElem?_eq_getElem (by omega)
    generalize xs[i.toNat]'(by omega) = x at hx
    refine V1.get1 hi0 hx (fun x => x) (fun _ => rfl) ?_
    refine brr_p (fun hg => ?_) (fun hg => ?_)
    · exact k _ ⟨fun e => absurd e (by decide), fun g => absurd (g x (List.mem_of_getElem? hx)) (by omega)⟩
    · rw [wrap64 (by omega) (by omega)]
      refine hnx (n - 1) _ _ (by omega) ⟨rfl, by omega, by omega, fun y hy => ?_⟩
      rw [show (i + 1).toNat = i.toNat + 1 by omega, take_succ_eq hx] at hy
      rcases List.mem_append.1 hy with hy | hy
      · exact hall y hy
      · simp at hy; subst hy; omega
  · rw [List.take_of_length_le (by omega)] at hall
    exact k _ ⟨fun _ => hall, fun _ => rfl⟩
structure MayAll (m : Mg) : Prop where
  nodes : (0 ≤ m.frm ∧ m.frm < 9) ∧ (0 ≤ m.to ∧ m.to < 9)
  shards : (0 ≤ m.shard ∧ m.shard < 8) ∧ (0 ≤ m.peer ∧ m.peer < 8)
  numbers : ∀ x ∈ [m.epoch, m.te, m.ts, m.round, m.seen, m.num, m.life, m.id], x ≤ 1099511627776
  span : 0 ≤ m.span ∧ m.span ≤ 1025
  lengths : m.b.length ≤ 16384 ∧ m.name.size ≤ 64 ∧ m.other.size ≤ 64
  small : (0 ≤ m.op ∧ m.op ≤ 3) ∧ (0 ≤ m.client ∧ m.client < 8) ∧ (0 ≤ m.state ∧ m.state ≤ 4)
  bad : m.bad = 0 ∨ (300 ≤ m.bad ∧ m.bad ≤ 307)
  amount : m.amount ≤ 9007199254740992
theorem may_all (ok : Pos m) : MayAll m ↔ headB m = true ∧ ∀ p < 18, mayB p m = true := by
  constructor
  · intro a
    have h1 := a.nodes; have h2 := a.shards; have h3 := a.span; have h4 := a.lengths; have h5 := a.small; have h6 := a.bad; have h7 := a.amount
    have h8 := a.numbers
    simp only [List.mem_cons, List.not_mem_nil, or_false, forall_eq_or_imp, forall_eq] at h8
    refine ⟨decide_eq_true ⟨h1.1, h1.2, h2.1⟩, fun p hp => ?_⟩
    have hu := ok p
    rcases (by omega : p = 0 ∨ p = 1 ∨ p = 2 ∨ p = 3 ∨ p = 4 ∨ p = 5 ∨ p = 6 ∨ p = 7 ∨ p = 8 ∨ p = 9 ∨ p = 10 ∨ p = 11 ∨ p = 12 ∨ p = 13 ∨ p = 14 ∨ p = 15 ∨ p = 16 ∨ p = 17) with rfl | rfl | rfl | rfl | rfl | rfl | rfl | rfl | rfl | rfl | rfl | rfl | rfl | rfl | rfl | rfl | rfl | rfl
    · have hu : 0 ≤ m.epoch := hu rfl
      exact decide_eq_true (p := 0 ≤ m.epoch ∧ m.epoch ≤ ((pmax 0 : Nat) : Int)) ⟨hu, by show m.epoch ≤ ((1099511627776 : Nat) : Int); omega⟩
    · have hu : 0 ≤ m.te := hu rfl
      exact decide_eq_true (p := 0 ≤ m.te ∧ m.te ≤ ((pmax 1 : Nat) : Int)) ⟨hu, by show m.te ≤ ((1099511627776 : Nat) : Int); omega⟩
    · have hu : 0 ≤ m.ts := hu rfl
      exact decide_eq_true (p := 0 ≤ m.ts ∧ m.ts ≤ ((pmax 2 : Nat) : Int)) ⟨hu, by show m.ts ≤ ((1099511627776 : Nat) : Int); omega⟩
    · have hu : 0 ≤ m.round := hu rfl
      exact decide_eq_true (p := 0 ≤ m.round ∧ m.round ≤ ((pmax 3 : Nat) : Int)) ⟨hu, by show m.round ≤ ((1099511627776 : Nat) : Int); omega⟩
    · exact decide_eq_true (p := 0 ≤ m.span ∧ m.span ≤ ((1025 : Nat) : Int)) (by omega)
    · have hu : 0 ≤ m.seen := hu rfl
      exact decide_eq_true (p := 0 ≤ m.seen ∧ m.seen ≤ ((pmax 5 : Nat) : Int)) ⟨hu, by show m.seen ≤ ((1099511627776 : Nat) : Int); omega⟩
    · exact decide_eq_true (p := m.b.length ≤ 16384) h4.1
    · exact decide_eq_true (p := 0 ≤ m.peer ∧ m.peer ≤ ((7 : Nat) : Int)) (by omega)
    · have hu : 0 ≤ m.num := hu rfl
      exact decide_eq_true (p := 0 ≤ m.num ∧ m.num ≤ ((pmax 8 : Nat) : Int)) ⟨hu, by show m.num ≤ ((1099511627776 : Nat) : Int); omega⟩
    · exact decide_eq_true (p := m.name.data.toList.length ≤ 64) (by rw [Array.length_toList]; exact h4.2.1)
    · exact decide_eq_true (p := m.other.data.toList.length ≤ 64) (by rw [Array.length_toList]; exact h4.2.2)
    · have hu : 0 ≤ m.amount := hu rfl
      exact decide_eq_true (p := 0 ≤ m.amount ∧ m.amount ≤ ((pmax 11 : Nat) : Int)) ⟨hu, by show m.amount ≤ ((9007199254740992 : Nat) : Int); omega⟩
    · have hu : 0 ≤ m.life := hu rfl
      exact decide_eq_true (p := 0 ≤ m.life ∧ m.life ≤ ((pmax 12 : Nat) : Int)) ⟨hu, by show m.life ≤ ((1099511627776 : Nat) : Int); omega⟩
    · have hu : 0 ≤ m.id := hu rfl
      exact decide_eq_true (p := 0 ≤ m.id ∧ m.id ≤ ((pmax 13 : Nat) : Int)) ⟨hu, by show m.id ≤ ((1099511627776 : Nat) : Int); omega⟩
    · exact decide_eq_true (p := 0 ≤ m.op ∧ m.op ≤ ((3 : Nat) : Int)) (by omega)
    · exact decide_eq_true (p := 0 ≤ m.client ∧ m.client ≤ ((7 : Nat) : Int)) (by omega)
    · exact decide_eq_true (p := 0 ≤ m.state ∧ m.state ≤ ((4 : Nat) : Int)) (by omega)
    · exact decide_eq_true (p := m.bad = 0 ∨ (300 ≤ m.bad ∧ m.bad ≤ 307)) h6
  · rintro ⟨hh, hall⟩
    have hh := of_decide_eq_true hh
    have g0 : 0 ≤ m.epoch ∧ m.epoch ≤ ((1099511627776 : Nat) : Int) := of_decide_eq_true (hall 0 (by decide))
    have g1 : 0 ≤ m.te ∧ m.te ≤ ((1099511627776 : Nat) : Int) := of_decide_eq_true (hall 1 (by decide))
    have g2 : 0 ≤ m.ts ∧ m.ts ≤ ((1099511627776 : Nat) : Int) := of_decide_eq_true (hall 2 (by decide))
    have g3 : 0 ≤ m.round ∧ m.round ≤ ((1099511627776 : Nat) : Int) := of_decide_eq_true (hall 3 (by decide))
    have g4 : 0 ≤ m.span ∧ m.span ≤ ((1025 : Nat) : Int) := of_decide_eq_true (hall 4 (by decide))
    have g5 : 0 ≤ m.seen ∧ m.seen ≤ ((1099511627776 : Nat) : Int) := of_decide_eq_true (hall 5 (by decide))
    have g6 : m.b.length ≤ 16384 := of_decide_eq_true (hall 6 (by decide))
    have g7 : 0 ≤ m.peer ∧ m.peer ≤ ((7 : Nat) : Int) := of_decide_eq_true (hall 7 (by decide))
    have g8 : 0 ≤ m.num ∧ m.num ≤ ((1099511627776 : Nat) : Int) := of_decide_eq_true (hall 8 (by decide))
    have g9 : m.name.data.toList.length ≤ 64 := of_decide_eq_true (hall 9 (by decide))
    rw [Array.length_toList] at g9
    have g10 : m.other.data.toList.length ≤ 64 := of_decide_eq_true (hall 10 (by decide))
    rw [Array.length_toList] at g10
    have g11 : 0 ≤ m.amount ∧ m.amount ≤ ((9007199254740992 : Nat) : Int) := of_decide_eq_true (hall 11 (by decide))
    have g12 : 0 ≤ m.life ∧ m.life ≤ ((1099511627776 : Nat) : Int) := of_decide_eq_true (hall 12 (by decide))
    have g13 : 0 ≤ m.id ∧ m.id ≤ ((1099511627776 : Nat) : Int) := of_decide_eq_true (hall 13 (by decide))
    have g14 : 0 ≤ m.op ∧ m.op ≤ ((3 : Nat) : Int) := of_decide_eq_true (hall 14 (by decide))
    have g15 : 0 ≤ m.client ∧ m.client ≤ ((7 : Nat) : Int) := of_decide_eq_true (hall 15 (by decide))
    have g16 : 0 ≤ m.state ∧ m.state ≤ ((4 : Nat) : Int) := of_decide_eq_true (hall 16 (by decide))
    have g17 : m.bad = 0 ∨ (300 ≤ m.bad ∧ m.bad ≤ 307) := of_decide_eq_true (hall 17 (by decide))
    refine ⟨⟨hh.1, hh.2.1⟩, ⟨hh.2.2, g7.1, Int.lt_of_le_of_lt g7.2 (by decide)⟩, ?_, g4, ⟨g6, g9, g10⟩, ⟨g14, ⟨g15.1, Int.lt_of_le_of_lt g15.2 (by decide)⟩, g16⟩, g17, g11.2⟩
    simp only [List.mem_cons, List.not_mem_nil, or_false, forall_eq_or_imp, forall_eq]
    exact ⟨g0.2, g1.2, g2.2, g3.2, g5.2, g8.2, g12.2, g13.2⟩
theorem F_ref8_May.is {Q : Bool → Heap → Prop} (O : Sat h0 h L) (hv : m.v.len = m.b.length) (k : ∀ z h', Sat h0 h' L → (z = true ↔ MayAll m) → Q z h') : F_ref8_May m.kind m.frm m.to m.shard m.epoch m.te m.ts m.round m.span m.seen m.v m.peer m.num m.name m.other m.amount m.life m.id m.op m.client m.state m.bad h Q := by
  rw [F_ref8_May.eq_1, F_ref8_May_of.eq_1]
  refine O.al fun a h O => ?_
  refine jn1 (fun (z : Bool) h' => h' = h ∧ (z = true ↔ ((0 ≤ m.frm ∧ m.frm < 9) ∧ (0 ≤ m.to ∧ m.to < 9)))) ?_ ?_
  · rintro z1 h ⟨rfl, h1⟩
    refine jn1 (fun (z : Bool) h' => h' = h ∧ (z = true ↔ ((0 ≤ m.shard ∧ m.shard < 8) ∧ (0 ≤ m.peer ∧ m.peer < 8)))) ?_ ?_
    · rintro z2 h ⟨rfl, h2⟩
      simp only [nn_some, pt_add, Nat.zero_add, Nat.add_zero, Nat.reduceAdd, Nat.reduceMul, Int.toNat_zero, Int.toNat_one, Nat.zero_mul, Nat.one_mul]
      refine O.ld 0 rfl (ldL_c (ldL_n ?_))
      refine O.ld 0 rfl (ldL_c (ldL_n ?_))
      refine O.ld 0 rfl (ldL_c (ldL_n ?_))
      refine O.ld 0 rfl (ldL_c (ldL_n ?_))
      refine O.ld 0 rfl (ldL_c (ldL_n ?_))
      refine O.ld 0 rfl (ldL_c (ldL_n ?_))
      refine O.ld 0 rfl (ldL_c (ldL_n ?_))
      refine O.ld 0 rfl (ldL_c (ldL_n ?_))
      refine O.al fun x h O => ?_
      have O : Sat h0 h (own x ([m.epoch, m.te, m.ts, m.round, m.seen, m.num, m.life, m.id].flatMap u64c) :: own a (mgC m) :: L) := O
      have Vu := O.arr (enc := u64c) (xs := [m.epoch, m.te, m.ts, m.round, m.seen, m.num, m.life, m.id]) 0 u64c_len rfl
      refine F_ref8_upTo.is (xs := [m.epoch, m.te, m.ts, m.round, m.seen, m.num, m.life, m.id]) Vu (by simp) fun z3 h3 => ?_
      have O := O.drop
      unfold mgC at O
      refine jn1 (fun (z : Bool) h' => h' = h ∧ (z = true ↔ (0 ≤ m.span ∧ m.span ≤ 1025))) ?_ ?_
      · rintro z4 h ⟨rfl, h4⟩
        refine jn1 (fun (z : Bool) h' => h' = h ∧ (z = true ↔ (m.b.length ≤ 16384 ∧ m.name.size ≤ 64 ∧ m.other.size ≤ 64))) ?_ ?_
        · rintro z5 h ⟨rfl, h5⟩
          refine jn1 (fun (z : Bool) h' => h' = h ∧ (z = true ↔ ((0 ≤ m.op ∧ m.op ≤ 3) ∧ (0 ≤ m.client ∧ m.client < 8) ∧ (0 ≤ m.state ∧ m.state ≤ 4)))) ?_ ?_
          · rintro z6 h ⟨rfl, h6⟩
            refine jn1 (fun (z : Bool) h' => h' = h ∧ (z = true ↔ (m.bad = 0 ∨ (300 ≤ m.bad ∧ m.bad ≤ 307)))) ?_ ?_
            · rintro z7 h ⟨rfl, h7⟩
              refine jn1 (fun (z : Bool) h' => h' = h ∧ (z = true ↔ MayAll m)) ?_ ?_
              · rintro z h ⟨rfl, h8⟩
                exact k _ _ O.drop h8
              · intro j hj
                have no : ∀ {p : Prop}, ¬ p → (MayAll m → p) → j false h := fun hp hi => hj _ _ ⟨rfl, ⟨fun e => absurd e (by decide), fun g => absurd (hi g) hp⟩⟩
                refine brr_of (fun e1 => ?_) (fun e => no (p := z1 = true) (by rw [e]; decide) fun g => h1.2 g.nodes)
                refine brr_of (fun e2 => ?_) (fun e => no (p := z2 = true) (by rw [e]; decide) fun g => h2.2 g.shards)
                refine brr_of (fun e3 => ?_) (fun e => no (p := z3 = true) (by rw [e]; decide) fun g => h3.2 g.numbers)
                refine brr_of (fun e4 => ?_) (fun e => no (p := z4 = true) (by rw [e]; decide) fun g => h4.2 g.span)
                refine brr_of (fun e5 => ?_) (fun e => no (p := z5 = true) (by rw [e]; decide) fun g => h5.2 g.lengths)
                refine brr_of (fun e6 => ?_) (fun e => no (p := z6 = true) (by rw [e]; decide) fun g => h6.2 g.small)
                refine brr_of (fun e7 => ?_) (fun e => no (p := z7 = true) (by rw [e]; decide) fun g => h7.2 g.bad)
                repeat (first | (with_reducible refine al_id ?_); refine O.al fun _ h O => ?_ | (with_reducible refine nn_id ?_); refine ⟨_, rfl, ?_⟩ | (with_reducible refine ld_id ?_); (first | refine O.ld 0 rfl ?_); (repeat (first | (with_reducible refine ldL_n ?_) | refine ldL_s ?_ | refine ldL_c ?_)) | (with_reducible refine st_ad (by first | (with_reducible rfl) | (simp only [pt_add, Nat.zero_add, Nat.add_zero, Nat.reduceAdd]; with_reducible rfl)) ?_); (first | refine O.st 0 rfl (by simp) rfl fun h O => ?_); (dsimp only [V.put, List.set, List.length_cons, List.length_nil] at O) | (with_reducible refine ca_id ?_); (first | refine O.ca 0 1 rfl ?_ | refine O.ca 0 2 rfl ?_))
                refine hj _ _ ⟨rfl, ?_⟩
                constructor
                · intro e
                  exact ⟨h1.1 e1, h2.1 e2, h3.1 e3, h4.1 e4, h5.1 e5, h6.1 e6, h7.1 e7, of_decide_eq_true e⟩
                · intro g
                  exact decide_eq_true g.amount
            · intro j hj
              repeat (first | (with_reducible refine al_id ?_); refine O.al fun _ h O => ?_ | (with_reducible refine nn_id ?_); refine ⟨_, rfl, ?_⟩ | (with_reducible refine ld_id ?_); (first | refine O.ld 0 rfl ?_); (repeat (first | (with_reducible refine ldL_n ?_) | refine ldL_s ?_ | refine ldL_c ?_)) | (with_reducible refine st_ad (by first | (with_reducible rfl) | (simp only [pt_add, Nat.zero_add, Nat.add_zero, Nat.reduceAdd]; with_reducible rfl)) ?_); (first | refine O.st 0 rfl (by simp) rfl fun h O => ?_); (dsimp only [V.put, List.set, List.length_cons, List.length_nil] at O) | (with_reducible refine ca_id ?_); (first | refine O.ca 0 1 rfl ?_ | refine O.ca 0 2 rfl ?_))
              refine brr_eq (fun e => ?_) (fun e => ?_)
              · exact hj _ _ ⟨rfl, ⟨fun _ => .inl e, fun _ => rfl⟩⟩
              repeat (first | (with_reducible refine al_id ?_); refine O.al fun _ h O => ?_ | (with_reducible refine nn_id ?_); refine ⟨_, rfl, ?_⟩ | (with_reducible refine ld_id ?_); (first | refine O.ld 0 rfl ?_); (repeat (first | (with_reducible refine ldL_n ?_) | refine ldL_s ?_ | refine ldL_c ?_)) | (with_reducible refine st_ad (by first | (with_reducible rfl) | (simp only [pt_add, Nat.zero_add, Nat.add_zero, Nat.reduceAdd]; with_reducible rfl)) ?_); (first | refine O.st 0 rfl (by simp) rfl fun h O => ?_); (dsimp only [V.put, List.set, List.length_cons, List.length_nil] at O) | (with_reducible refine ca_id ?_); (first | refine O.ca 0 1 rfl ?_ | refine O.ca 0 2 rfl ?_))
              refine brr_p (fun e2 => ?_) (fun e2 => hj _ _ ⟨rfl, by simp; omega⟩)
              repeat (first | (with_reducible refine al_id ?_); refine O.al fun _ h O => ?_ | (with_reducible refine nn_id ?_); refine ⟨_, rfl, ?_⟩ | (with_reducible refine ld_id ?_); (first | refine O.ld 0 rfl ?_); (repeat (first | (with_reducible refine ldL_n ?_) | refine ldL_s ?_ | refine ldL_c ?_)) | (with_reducible refine st_ad (by first | (with_reducible rfl) | (simp only [pt_add, Nat.zero_add, Nat.add_zero, Nat.reduceAdd]; with_reducible rfl)) ?_); (first | refine O.st 0 rfl (by simp) rfl fun h O => ?_); (dsimp only [V.put, List.set, List.length_cons, List.length_nil] at O) | (with_reducible refine ca_id ?_); (first | refine O.ca 0 1 rfl ?_ | refine O.ca 0 2 rfl ?_))
              exact hj _ _ ⟨rfl, by simp; omega⟩
          · intro j hj
            repeat (first | (with_reducible refine al_id ?_); refine O.al fun _ h O => ?_ | (with_reducible refine nn_id ?_); refine ⟨_, rfl, ?_⟩ | (with_reducible refine ld_id ?_); (first | refine O.ld 0 rfl ?_); (repeat (first | (with_reducible refine ldL_n ?_) | refine ldL_s ?_ | refine ldL_c ?_)) | (with_reducible refine st_ad (by first | (with_reducible rfl) | (simp only [pt_add, Nat.zero_add, Nat.add_zero, Nat.reduceAdd]; with_reducible rfl)) ?_); (first | refine O.st 0 rfl (by simp) rfl fun h O => ?_); (dsimp only [V.put, List.set, List.length_cons, List.length_nil] at O) | (with_reducible refine ca_id ?_); (first | refine O.ca 0 1 rfl ?_ | refine O.ca 0 2 rfl ?_))
            refine brr_p (fun e1 => ?_) (fun e1 => hj _ _ ⟨rfl, by simp; omega⟩)
            repeat (first | (with_reducible refine al_id ?_); refine O.al fun _ h O => ?_ | (with_reducible refine nn_id ?_); refine ⟨_, rfl, ?_⟩ | (with_reducible refine ld_id ?_); (first | refine O.ld 0 rfl ?_); (repeat (first | (with_reducible refine ldL_n ?_) | refine ldL_s ?_ | refine ldL_c ?_)) | (with_reducible refine st_ad (by first | (with_reducible rfl) | (simp only [pt_add, Nat.zero_add, Nat.add_zero, Nat.reduceAdd]; with_reducible rfl)) ?_); (first | refine O.st 0 rfl (by simp) rfl fun h O => ?_); (dsimp only [V.put, List.set, List.length_cons, List.length_nil] at O) | (with_reducible refine ca_id ?_); (first | refine O.ca 0 1 rfl ?_ | refine O.ca 0 2 rfl ?_))
            refine brr_p (fun e2 => ?_) (fun e1 => hj _ _ ⟨rfl, by simp; omega⟩)
            repeat (first | (with_reducible refine al_id ?_); refine O.al fun _ h O => ?_ | (with_reducible refine nn_id ?_); refine ⟨_, rfl, ?_⟩ | (with_reducible refine ld_id ?_); (first | refine O.ld 0 rfl ?_); (repeat (first | (with_reducible refine ldL_n ?_) | refine ldL_s ?_ | refine ldL_c ?_)) | (with_reducible refine st_ad (by first | (with_reducible rfl) | (simp only [pt_add, Nat.zero_add, Nat.add_zero, Nat.reduceAdd]; with_reducible rfl)) ?_); (first | refine O.st 0 rfl (by simp) rfl fun h O => ?_); (dsimp only [V.put, List.set, List.length_cons, List.length_nil] at O) | (with_reducible refine ca_id ?_); (first | refine O.ca 0 1 rfl ?_ | refine O.ca 0 2 rfl ?_))
            refine brr_p (fun e3 => ?_) (fun e1 => hj _ _ ⟨rfl, by simp; omega⟩)
            repeat (first | (with_reducible refine al_id ?_); refine O.al fun _ h O => ?_ | (with_reducible refine nn_id ?_); refine ⟨_, rfl, ?_⟩ | (with_reducible refine ld_id ?_); (first | refine O.ld 0 rfl ?_); (repeat (first | (with_reducible refine ldL_n ?_) | refine ldL_s ?_ | refine ldL_c ?_)) | (with_reducible refine st_ad (by first | (with_reducible rfl) | (simp only [pt_add, Nat.zero_add, Nat.add_zero, Nat.reduceAdd]; with_reducible rfl)) ?_); (first | refine O.st 0 rfl (by simp) rfl fun h O => ?_); (dsimp only [V.put, List.set, List.length_cons, List.length_nil] at O) | (with_reducible refine ca_id ?_); (first | refine O.ca 0 1 rfl ?_ | refine O.ca 0 2 rfl ?_))
            refine brr_p (fun e4 => ?_) (fun e1 => hj _ _ ⟨rfl, by simp; omega⟩)
            repeat (first | (with_reducible refine al_id ?_); refine O.al fun _ h O => ?_ | (with_reducible refine nn_id ?_); refine ⟨_, rfl, ?_⟩ | (with_reducible refine ld_id ?_); (first | refine O.ld 0 rfl ?_); (repeat (first | (with_reducible refine ldL_n ?_) | refine ldL_s ?_ | refine ldL_c ?_)) | (with_reducible refine st_ad (by first | (with_reducible rfl) | (simp only [pt_add, Nat.zero_add, Nat.add_zero, Nat.reduceAdd]; with_reducible rfl)) ?_); (first | refine O.st 0 rfl (by simp) rfl fun h O => ?_); (dsimp only [V.put, List.set, List.length_cons, List.length_nil] at O) | (with_reducible refine ca_id ?_); (first | refine O.ca 0 1 rfl ?_ | refine O.ca 0 2 rfl ?_))
            refine brr_p (fun e5 => ?_) (fun e1 => hj _ _ ⟨rfl, by simp; omega⟩)
            repeat (first | (with_reducible refine al_id ?_); refine O.al fun _ h O => ?_ | (with_reducible refine nn_id ?_); refine ⟨_, rfl, ?_⟩ | (with_reducible refine ld_id ?_); (first | refine O.ld 0 rfl ?_); (repeat (first | (with_reducible refine ldL_n ?_) | refine ldL_s ?_ | refine ldL_c ?_)) | (with_reducible refine st_ad (by first | (with_reducible rfl) | (simp only [pt_add, Nat.zero_add, Nat.add_zero, Nat.reduceAdd]; with_reducible rfl)) ?_); (first | refine O.st 0 rfl (by simp) rfl fun h O => ?_); (dsimp only [V.put, List.set, List.length_cons, List.length_nil] at O) | (with_reducible refine ca_id ?_); (first | refine O.ca 0 1 rfl ?_ | refine O.ca 0 2 rfl ?_))
            exact hj _ _ ⟨rfl, by simp; omega⟩
        · intro j hj
          repeat (first | (with_reducible refine al_id ?_); refine O.al fun _ h O => ?_ | (with_reducible refine nn_id ?_); refine ⟨_, rfl, ?_⟩ | (with_reducible refine ld_id ?_); (first | refine O.ld 0 rfl ?_); (repeat (first | (with_reducible refine ldL_n ?_) | refine ldL_s ?_ | refine ldL_c ?_)) | (with_reducible refine st_ad (by first | (with_reducible rfl) | (simp only [pt_add, Nat.zero_add, Nat.add_zero, Nat.reduceAdd]; with_reducible rfl)) ?_); (first | refine O.st 0 rfl (by simp) rfl fun h O => ?_); (dsimp only [V.put, List.set, List.length_cons, List.length_nil] at O) | (with_reducible refine ca_id ?_); (first | refine O.ca 0 1 rfl ?_ | refine O.ca 0 2 rfl ?_))
          refine brr_p (fun e1 => ?_) (fun e1 => hj _ _ ⟨rfl, by have e1 : ¬ ((m.v.len : Nat) : Int) ≤ 16384 := e1; simp; omega⟩)
          have e1 : ((m.v.len : Nat) : Int) ≤ 16384 := e1
          repeat (first | (with_reducible refine al_id ?_); refine O.al fun _ h O => ?_ | (with_reducible refine nn_id ?_); refine ⟨_, rfl, ?_⟩ | (with_reducible refine ld_id ?_); (first | refine O.ld 0 rfl ?_); (repeat (first | (with_reducible refine ldL_n ?_) | refine ldL_s ?_ | refine ldL_c ?_)) | (with_reducible refine st_ad (by first | (with_reducible rfl) | (simp only [pt_add, Nat.zero_add, Nat.add_zero, Nat.reduceAdd]; with_reducible rfl)) ?_); (first | refine O.st 0 rfl (by simp) rfl fun h O => ?_); (dsimp only [V.put, List.set, List.length_cons, List.length_nil] at O) | (with_reducible refine ca_id ?_); (first | refine O.ca 0 1 rfl ?_ | refine O.ca 0 2 rfl ?_))
          refine brr_p (fun e2 => ?_) (fun e1 => hj _ _ ⟨rfl, by simp; omega⟩)
          repeat (first | (with_reducible refine al_id ?_); refine O.al fun _ h O => ?_ | (with_reducible refine nn_id ?_); refine ⟨_, rfl, ?_⟩ | (with_reducible refine ld_id ?_); (first | refine O.ld 0 rfl ?_); (repeat (first | (with_reducible refine ldL_n ?_) | refine ldL_s ?_ | refine ldL_c ?_)) | (with_reducible refine st_ad (by first | (with_reducible rfl) | (simp only [pt_add, Nat.zero_add, Nat.add_zero, Nat.reduceAdd]; with_reducible rfl)) ?_); (first | refine O.st 0 rfl (by simp) rfl fun h O => ?_); (dsimp only [V.put, List.set, List.length_cons, List.length_nil] at O) | (with_reducible refine ca_id ?_); (first | refine O.ca 0 1 rfl ?_ | refine O.ca 0 2 rfl ?_))
          exact hj _ _ ⟨rfl, by simp; omega⟩
      · intro j hj
        repeat (first | (with_reducible refine al_id ?_); refine O.al fun _ h O => ?_ | (with_reducible refine nn_id ?_); refine ⟨_, rfl, ?_⟩ | (with_reducible refine ld_id ?_); (first | refine O.ld 0 rfl ?_); (repeat (first | (with_reducible refine ldL_n ?_) | refine ldL_s ?_ | refine ldL_c ?_)) | (with_reducible refine st_ad (by first | (with_reducible rfl) | (simp only [pt_add, Nat.zero_add, Nat.add_zero, Nat.reduceAdd]; with_reducible rfl)) ?_); (first | refine O.st 0 rfl (by simp) rfl fun h O => ?_); (dsimp only [V.put, List.set, List.length_cons, List.length_nil] at O) | (with_reducible refine ca_id ?_); (first | refine O.ca 0 1 rfl ?_ | refine O.ca 0 2 rfl ?_))
        refine brr_p (fun e1 => ?_) (fun e1 => hj _ _ ⟨rfl, by simp; omega⟩)
        repeat (first | (with_reducible refine al_id ?_); refine O.al fun _ h O => ?_ | (with_reducible refine nn_id ?_); refine ⟨_, rfl, ?_⟩ | (with_reducible refine ld_id ?_); (first | refine O.ld 0 rfl ?_); (repeat (first | (with_reducible refine ldL_n ?_) | refine ldL_s ?_ | refine ldL_c ?_)) | (with_reducible refine st_ad (by first | (with_reducible rfl) | (simp only [pt_add, Nat.zero_add, Nat.add_zero, Nat.reduceAdd]; with_reducible rfl)) ?_); (first | refine O.st 0 rfl (by simp) rfl fun h O => ?_); (dsimp only [V.put, List.set, List.length_cons, List.length_nil] at O) | (with_reducible refine ca_id ?_); (first | refine O.ca 0 1 rfl ?_ | refine O.ca 0 2 rfl ?_))
        exact hj _ _ ⟨rfl, by simp; omega⟩
    · intro j hj
      repeat (first | (with_reducible refine al_id ?_); refine O.al fun _ h O => ?_ | (with_reducible refine nn_id ?_); refine ⟨_, rfl, ?_⟩ | (with_reducible refine ld_id ?_); (first | refine O.ld 0 rfl ?_); (repeat (first | (with_reducible refine ldL_n ?_) | refine ldL_s ?_ | refine ldL_c ?_)) | (with_reducible refine st_ad (by first | (with_reducible rfl) | (simp only [pt_add, Nat.zero_add, Nat.add_zero, Nat.reduceAdd]; with_reducible rfl)) ?_); (first | refine O.st 0 rfl (by simp) rfl fun h O => ?_); (dsimp only [V.put, List.set, List.length_cons, List.length_nil] at O) | (with_reducible refine ca_id ?_); (first | refine O.ca 0 1 rfl ?_ | refine O.ca 0 2 rfl ?_))
      refine brr_p (fun e1 => ?_) (fun e1 => hj _ _ ⟨rfl, by simp; omega⟩)
      repeat (first | (with_reducible refine al_id ?_); refine O.al fun _ h O => ?_ | (with_reducible refine nn_id ?_); refine ⟨_, rfl, ?_⟩ | (with_reducible refine ld_id ?_); (first | refine O.ld 0 rfl ?_); (repeat (first | (with_reducible refine ldL_n ?_) | refine ldL_s ?_ | refine ldL_c ?_)) | (with_reducible refine st_ad (by first | (with_reducible rfl) | (simp only [pt_add, Nat.zero_add, Nat.add_zero, Nat.reduceAdd]; with_reducible rfl)) ?_); (first | refine O.st 0 rfl (by simp) rfl fun h O => ?_); (dsimp only [V.put, List.set, List.length_cons, List.length_nil] at O) | (with_reducible refine ca_id ?_); (first | refine O.ca 0 1 rfl ?_ | refine O.ca 0 2 rfl ?_))
      refine brr_p (fun e2 => ?_) (fun e1 => hj _ _ ⟨rfl, by simp; omega⟩)
      repeat (first | (with_reducible refine al_id ?_); refine O.al fun _ h O => ?_ | (with_reducible refine nn_id ?_); refine ⟨_, rfl, ?_⟩ | (with_reducible refine ld_id ?_); (first | refine O.ld 0 rfl ?_); (repeat (first | (with_reducible refine ldL_n ?_) | refine ldL_s ?_ | refine ldL_c ?_)) | (with_reducible refine st_ad (by first | (with_reducible rfl) | (simp only [pt_add, Nat.zero_add, Nat.add_zero, Nat.reduceAdd]; with_reducible rfl)) ?_); (first | refine O.st 0 rfl (by simp) rfl fun h O => ?_); (dsimp only [V.put, List.set, List.length_cons, List.length_nil] at O) | (with_reducible refine ca_id ?_); (first | refine O.ca 0 1 rfl ?_ | refine O.ca 0 2 rfl ?_))
      refine brr_p (fun e3 => ?_) (fun e1 => hj _ _ ⟨rfl, by simp; omega⟩)
      repeat (first | (with_reducible refine al_id ?_); refine O.al fun _ h O => ?_ | (with_reducible refine nn_id ?_); refine ⟨_, rfl, ?_⟩ | (with_reducible refine ld_id ?_); (first | refine O.ld 0 rfl ?_); (repeat (first | (with_reducible refine ldL_n ?_) | refine ldL_s ?_ | refine ldL_c ?_)) | (with_reducible refine st_ad (by first | (with_reducible rfl) | (simp only [pt_add, Nat.zero_add, Nat.add_zero, Nat.reduceAdd]; with_reducible rfl)) ?_); (first | refine O.st 0 rfl (by simp) rfl fun h O => ?_); (dsimp only [V.put, List.set, List.length_cons, List.length_nil] at O) | (with_reducible refine ca_id ?_); (first | refine O.ca 0 1 rfl ?_ | refine O.ca 0 2 rfl ?_))
      exact hj _ _ ⟨rfl, by simp; omega⟩
  · intro j hj
    repeat (first | (with_reducible refine al_id ?_); refine O.al fun _ h O => ?_ | (with_reducible refine nn_id ?_); refine ⟨_, rfl, ?_⟩ | (with_reducible refine ld_id ?_); (first | refine O.ld 0 rfl ?_); (repeat (first | (with_reducible refine ldL_n ?_) | refine ldL_s ?_ | refine ldL_c ?_)) | (with_reducible refine st_ad (by first | (with_reducible rfl) | (simp only [pt_add, Nat.zero_add, Nat.add_zero, Nat.reduceAdd]; with_reducible rfl)) ?_); (first | refine O.st 0 rfl (by simp) rfl fun h O => ?_); (dsimp only [V.put, List.set, List.length_cons, List.length_nil] at O) | (with_reducible refine ca_id ?_); (first | refine O.ca 0 1 rfl ?_ | refine O.ca 0 2 rfl ?_))
    refine brr_p (fun e1 => ?_) (fun e1 => hj _ _ ⟨rfl, by simp; omega⟩)
    repeat (first | (with_reducible refine al_id ?_); refine O.al fun _ h O => ?_ | (with_reducible refine nn_id ?_); refine ⟨_, rfl, ?_⟩ | (with_reducible refine ld_id ?_); (first | refine O.ld 0 rfl ?_); (repeat (first | (with_reducible refine ldL_n ?_) | refine ldL_s ?_ | refine ldL_c ?_)) | (with_reducible refine st_ad (by first | (with_reducible rfl) | (simp only [pt_add, Nat.zero_add, Nat.add_zero, Nat.reduceAdd]; with_reducible rfl)) ?_); (first | refine O.st 0 rfl (by simp) rfl fun h O => ?_); (dsimp only [V.put, List.set, List.length_cons, List.length_nil] at O) | (with_reducible refine ca_id ?_); (first | refine O.ca 0 1 rfl ?_ | refine O.ca 0 2 rfl ?_))
    refine brr_p (fun e2 => ?_) (fun e1 => hj _ _ ⟨rfl, by simp; omega⟩)
    repeat (first | (with_reducible refine al_id ?_); refine O.al fun _ h O => ?_ | (with_reducible refine nn_id ?_); refine ⟨_, rfl, ?_⟩ | (with_reducible refine ld_id ?_); (first | refine O.ld 0 rfl ?_); (repeat (first | (with_reducible refine ldL_n ?_) | refine ldL_s ?_ | refine ldL_c ?_)) | (with_reducible refine st_ad (by first | (with_reducible rfl) | (simp only [pt_add, Nat.zero_add, Nat.add_zero, Nat.reduceAdd]; with_reducible rfl)) ?_); (first | refine O.st 0 rfl (by simp) rfl fun h O => ?_); (dsimp only [V.put, List.set, List.length_cons, List.length_nil] at O) | (with_reducible refine ca_id ?_); (first | refine O.ca 0 1 rfl ?_ | refine O.ca 0 2 rfl ?_))
    refine brr_p (fun e3 => ?_) (fun e1 => hj _ _ ⟨rfl, by simp; omega⟩)
    repeat (first | (with_reducible refine al_id ?_); refine O.al fun _ h O => ?_ | (with_reducible refine nn_id ?_); refine ⟨_, rfl, ?_⟩ | (with_reducible refine ld_id ?_); (first | refine O.ld 0 rfl ?_); (repeat (first | (with_reducible refine ldL_n ?_) | refine ldL_s ?_ | refine ldL_c ?_)) | (with_reducible refine st_ad (by first | (with_reducible rfl) | (simp only [pt_add, Nat.zero_add, Nat.add_zero, Nat.reduceAdd]; with_reducible rfl)) ?_); (first | refine O.st 0 rfl (by simp) rfl fun h O => ?_); (dsimp only [V.put, List.set, List.length_cons, List.length_nil] at O) | (with_reducible refine ca_id ?_); (first | refine O.ca 0 1 rfl ?_ | refine O.ca 0 2 rfl ?_))
    exact hj _ _ ⟨rfl, by simp; omega⟩
end
end Go.Proofs.YthiginhigfieiaaGreatDoor.V
/- Numbers of fixed size as the document writes them. -/
namespace Go.Proofs.YthiginhigfieiaaGreatDoor.V
open Go Go.RowKit
set_option linter.unusedVariables false
set_option linter.unusedSimpArgs false
section
variable {h0 h : Heap} {L : List Res}
theorem F_ref1_fixed.is {n size : Nat} {Q : Sl → Heap → Prop} (O : Sat h0 h L) (hs : 0 < size) (hs8 : size ≤ 8) (hn : n < 18446744073709551616) (k : ∀ s h', Sat h0 h' (buf 1 u8 s (fixB n size) :: L) → Q s h') : F_ref1_fixed n size h Q := by
  rw [F_ref1_fixed.eq_1, F_ref1_fixed_of.eq_1]
  refine O.mk_buf (by omega) (by omega) (by omega) fun b h O => ?_
  have e0 : mkCells (Value.int .u8 0) ((size : Int).toNat * 1) = (List.replicate size (0 : UInt8)).flatMap u8 ++ [] := by
    have h1 : mkCells (Value.int .u8 0) ((size : Int).toNat * 1) = List.replicate size (.int .u8 0) := by
      unfold mkCells
      apply List.ext_getElem
      · simp
      · intro i h1 h2
        simp [Value.cells, Nat.mod_one]
    rw [h1, List.append_nil]
    have : ∀ k : Nat, List.replicate k (Value.int .u8 0) = (List.replicate k (0 : UInt8)).flatMap u8 := by
      intro k
      induction k with
      | zero => rfl
      | succ k ih => rw [List.replicate_succ, List.replicate_succ, List.flatMap_cons, ih]; rfl
    exact this _
  rw [e0] at O
  have O := (O.own_buf (k := 0) (sz := 1) (by simp)).bufsI
  rw [List.length_replicate, Nat.add_zero] at O
  rw [show (size : Int).toNat = size by omega]
  refine jn0 (fun h' => Sat h0 h' (buf 1 u8 ⟨some (pt b 0), size, size⟩ (fixB n size) :: L)) (fun h O => k _ h O) fun j hj => ?_
  rw [F_ref1_fixed.l1.eq_1, wrap64 (by omega) (by omega)]
  refine wl2 (k := .int .u64) (l := .int .i64) (fun (m : Nat) (x i : Int) (h' : Heap) => i + 1 = m ∧ m ≤ size ∧ x = ((n / 256 ^ (size - m) : Nat) : Int) ∧ ∃ ds : List UInt8, ds.length = size ∧ (∀ (j : Nat), m ≤ j → ds[j]? = (fixB n size)[j]?) ∧ Sat h0 h' (buf 1 u8 ⟨some (pt b 0), size, size⟩ ds :: L)) ?_ (m := size) ⟨by omega, by omega, by simp, _, by simp, by intro j hjj; rw [List.getElem?_eq_none (by simpa using hjj), List.getElem?_eq_none (by rw [fixB_len]; exact hjj)], O⟩
  clear O
  rintro m (x : Int) (i : Int) h next hn2 ⟨him, hms, rfl, ds, hds, hdj, O⟩
  refine brr_p (fun hge => ?_) (fun hge => ?_)
  · have hge : 0 ≤ i := hge
    refine ⟨by decide, ?_⟩
    have e2 : n / 256 ^ (size - (m - 1)) = n / 256 ^ (size - m) / 256 := by
      rw [show size - (m - 1) = size - m + 1 by omega, Nat.pow_succ, ← Nat.div_div_eq_div_mul]
    have hqn : n / 256 ^ (size - m) ≤ n := Nat.div_le_self _ _
    have hfx : (fixB n size)[i.toNat]? = some (UInt8.ofNat (n / 256 ^ (size - m))) := by
      rw [fixB_at (by omega), show size - 1 - i.toNat = size - m by omega]
    generalize n / 256 ^ (size - m) = q at *
    have hw : IntKind.u8.wrap ((q : Int).tmod 256) = ((UInt8.ofNat q).toNat : Int) := by
      rw [Int.tmod_eq_emod_of_nonneg (by omega), show (q : Int) % 256 = ((q % 256 : Nat) : Int) by omega, wrap8_ofNat]
      simp
    rw [hw]
    refine O.put1 u8_len u8_one hge (by omega) (UInt8.ofNat q) rfl fun h O => ?_
    refine ⟨by decide, ?_⟩
    rw [Int.tdiv_eq_ediv_of_nonneg (by omega), wrapu64 (by omega) (by omega), wrap64 (by omega) (by omega)]
    refine hn2 (m - 1) _ _ _ (by omega) ⟨by omega, by omega, by rw [e2]; omega, _, by simp [hds], fun j hj => ?_, O⟩
    rw [List.getElem?_set]
    by_cases e : i.toNat = j
    · subst e
      rw [if_pos rfl, if_pos (by omega), hfx]
    · rw [if_neg e]
      exact hdj j (by omega)
  · refine hj _ ?_
    have : ds = fixB n size := by
      apply List.ext_getElem?
      intro j
      exact hdj j (by omega)
    rw [← this]
    exact O
end
end Go.Proofs.YthiginhigfieiaaGreatDoor.V
/- The document's Body, Seal and Encode. -/
namespace Go.Proofs.YthiginhigfieiaaGreatDoor.V
open Go Go.RowKit
set_option linter.unusedVariables false
set_option linter.unusedSimpArgs false
section
variable {h0 h : Heap} {L : List Res} {p : Nat} {m n : Mg} {l : List UInt8}
theorem F_ref1_U32.isM {n : Nat} {Q : Sl → Heap → Prop} (O : Sat h0 h L) (hn : n < 4294967296) (k : ∀ s h', Sat h0 h' (buf 1 u8 s (fixB n 4) :: L) → Q s h') : F_ref1_U32 n h Q := by
  rw [F_ref1_U32.eq_1, F_ref1_U32_of.eq_1]
  rw [wrapu64 (by omega) (by omega)]
  exact F_ref1_fixed.is (size := 4) O (by decide) (by decide) (by omega) k
theorem F_ref8_pen_number.is {x : Int} {Q : Heap → Prop} (g0 : 0 ≤ x) (g1 : x < 18446744073709551616) (O : Sat h0 h (wrR p l :: L)) (hl : l.length + 20 ≤ (140737488355328 : Nat)) (k : ∀ h', Sat h0 h' (wrR p (l ++ varB x.toNat) :: L) → Q h') : F_ref8_pen_number (some (pt p 0)) x h Q := by
  rw [F_ref8_pen_number.eq_1, F_ref8_pen_number_of.eq_1]
  simp only [nn_some, pt_add, Nat.zero_add, Nat.add_zero, Nat.reduceAdd, Nat.reduceMul, Int.toNat_zero, Int.toNat_one, Nat.zero_mul, Nat.one_mul]
  obtain ⟨s, O⟩ := O.wr
  refine O.ld 0 rfl (ldL_c (ldL_n ?_))
  rw [show x = ((x.toNat : Nat) : Int) by omega]
  refine F_ref1_Var.is O (by omega) fun s2 h O => ?_
  refine ⟨O.cells 1 rfl 0 1, ?_⟩
  have V2 := (O.view 0 u8_len (by simp) rfl).1
  have hv := (varB_le (n := x.toNat) (by omega)).1
  have O := O.sel [2, 1, 0] 3 rfl (Nat.le_add_left _ _)
  simp only [selT, List.map, nth, List.drop, List.cons_append, List.nil_append] at O
  refine O.app_buf u8_len u8_one rfl (ys := varB x.toNat) V2.len (V2.len ▸ V2.rd u8_len) (by omega) fun s3 h O _ => ?_
  refine O.st 1 rfl (by simp) rfl fun h O => ?_
  dsimp only [V.put, List.set] at O
  have O := O.sel [1, 0] 3 rfl (Nat.le_add_left _ _)
  simp only [selT, List.map, nth, List.drop, List.cons_append, List.nil_append] at O
  exact k h (Sat.wrI (s := s3) O)
theorem F_ref8_pen_text.is {a : Sl} {ys : List UInt8} {Q : Heap → Prop} (V1 : Stays h0 L fun h => Bytes h a ys) (O : Sat h0 h (wrR p l :: L)) (hl : l.length + ys.length + 20 ≤ (140737488355328 : Nat)) (k : ∀ h', Sat h0 h' (wrR p (l ++ (varB ys.length ++ ys)) :: L) → Q h') : F_ref8_pen_text (some (pt p 0)) a h Q := by
  rw [F_ref8_pen_text.eq_1, F_ref8_pen_text_of.eq_1]
  simp only [nn_some, pt_add, Nat.zero_add, Nat.add_zero, Nat.reduceAdd, Nat.reduceMul, Int.toNat_zero, Int.toNat_one, Nat.zero_mul, Nat.one_mul]
  obtain ⟨s, O⟩ := O.wr
  refine O.ld 0 rfl (ldL_c (ldL_n ?_))
  refine F_ref1_Text.is O (fun h O => V1 h O.drop.drop) (by omega) fun s2 h O => ?_
  refine ⟨O.cells 1 rfl 0 1, ?_⟩
  have V2 := (O.view 0 u8_len (by simp) rfl).1
  have hv := (varB_le (n := ys.length) (by omega)).1
  have O := O.sel [2, 1, 0] 3 rfl (Nat.le_add_left _ _)
  simp only [selT, List.map, nth, List.drop, List.cons_append, List.nil_append] at O
  refine O.app_buf u8_len u8_one rfl (ys := varB ys.length ++ ys) V2.len (V2.len ▸ V2.rd u8_len) (by rw [List.length_append]; omega) fun s3 h O _ => ?_
  refine O.st 1 rfl (by simp) rfl fun h O => ?_
  dsimp only [V.put, List.set] at O
  have O := O.sel [1, 0] 3 rfl (Nat.le_add_left _ _)
  simp only [selT, List.map, nth, List.drop, List.cons_append, List.nil_append] at O
  exact k h (Sat.wrI (s := s3) O)
theorem fix1 {x : Int} (g : 0 ≤ x) : [Value.int .u8 (IntKind.u8.wrap x)] = (fixB x.toNat 1).flatMap u8 := by
  obtain ⟨n, rfl⟩ : ∃ n : Nat, x = n := ⟨x.toNat, by omega⟩
  rw [wrap8_ofNat, Int.toNat_natCast]
  show _ = [Value.int .u8 ((UInt8.ofNat (n / 256 ^ (1 - 1 - 0))).toNat : Int)]
  rw [show n / 256 ^ (1 - 1 - 0) = n from Nat.div_one n]
theorem fix1b {n : Nat} : fixB n 1 = [UInt8.ofNat n] := by
  show [UInt8.ofNat (n / 256 ^ (1 - 1 - 0))] = _
  rw [show n / 256 ^ (1 - 1 - 0) = n from Nat.div_one n]
theorem F_ref8_pen_small.is {x : Int} {Q : Heap → Prop} (g0 : 0 ≤ x) (O : Sat h0 h (wrR p l :: L)) (hl : l.length + 20 ≤ (140737488355328 : Nat)) (k : ∀ h', Sat h0 h' (wrR p (l ++ fixB x.toNat 1) :: L) → Q h') : F_ref8_pen_small (some (pt p 0)) x h Q := by
  rw [F_ref8_pen_small.eq_1, F_ref8_pen_small_of.eq_1]
  simp only [nn_some, pt_add, Nat.zero_add, Nat.add_zero, Nat.reduceAdd, Nat.reduceMul, Int.toNat_zero, Int.toNat_one, Nat.zero_mul, Nat.one_mul]
  obtain ⟨s, O⟩ := O.wr
  refine O.ld 0 rfl (ldL_c (ldL_n ?_))
  refine wr_push O (x := UInt8.ofNat x.toNat) ?_ (by omega) fun h O => ?_
  · rw [fix1 g0, fix1b]
    rfl
  · rw [fix1b] at k
    exact k h O
theorem bodyH_len : (bodyH m).length = 4 := by unfold bodyH; simp only [List.length_append, fixB_len]
theorem F_ref8_Seal.is {a : Sl} {xs : List UInt8} {Q : Sl → Heap → Prop} (O : Sat h0 h L) (V1 : Stays h0 L fun h => Bytes h a xs) (hl : xs.length + 20 ≤ (140737488355328 : Nat)) (k : ∀ s h', Sat h0 h' (buf 1 u8 s (sealB xs) :: L) → Q s h') : F_ref8_Seal a h Q := by
  rw [F_ref8_Seal.eq_1, F_ref8_Seal_of.eq_1]
  have V := V1 h O
  have O := O.nil_buf (sz := 1) (enc := u8)
  refine O.app_buf u8_len u8_one rfl (ys := xs) V.len (V.len ▸ V.rd u8_len) (by simp; omega) fun s h O _ => ?_
  rw [List.nil_append] at O
  refine F_ref1_Sum.is (V1 h O.drop) (by omega) ?_
  refine F_ref1_U32.isM O (crc xs).isLt fun s2 h O => ?_
  have V2 := (O.view 0 u8_len (by simp) rfl).1
  refine O.swap.app_buf u8_len u8_one rfl (ys := fixB (crc xs).toNat 4) V2.len (V2.len ▸ V2.rd u8_len) (by rw [fixB_len]; omega) fun s3 h O _ => ?_
  exact k s3 h (O.swap.drop)
theorem body_1 (e : m.kind = 1) : bodyM m = (bodyH m ++ bytP 0 m) := by
  unfold bodyM kp
  rw [e]
  show bodyH m ++ ((bytP 0 m ++ [])) = _
  simp only [List.append_nil, List.append_assoc]
theorem body_2 (e : m.kind = 2) : bodyM m = ((((bodyH m ++ bytP 0 m) ++ bytP 1 m) ++ bytP 2 m) ++ bytP 6 m) := by
  unfold bodyM kp
  rw [e]
  show bodyH m ++ ((bytP 0 m ++ (bytP 1 m ++ (bytP 2 m ++ (bytP 6 m ++ []))))) = _
  simp only [List.append_nil, List.append_assoc]
theorem body_3 (e : m.kind = 3) : bodyM m = ((bodyH m ++ bytP 0 m) ++ bytP 5 m) := by
  unfold bodyM kp
  rw [e]
  show bodyH m ++ ((bytP 0 m ++ (bytP 5 m ++ []))) = _
  simp only [List.append_nil, List.append_assoc]
theorem body_4 (e : m.kind = 4) : bodyM m = ((((bodyH m ++ bytP 1 m) ++ bytP 2 m) ++ bytP 4 m) ++ bytP 6 m) := by
  unfold bodyM kp
  rw [e]
  show bodyH m ++ ((bytP 1 m ++ (bytP 2 m ++ (bytP 4 m ++ (bytP 6 m ++ []))))) = _
  simp only [List.append_nil, List.append_assoc]
theorem body_5 (e : m.kind = 5) : bodyM m = ((bodyH m ++ bytP 1 m) ++ bytP 2 m) := by
  unfold bodyM kp
  rw [e]
  show bodyH m ++ ((bytP 1 m ++ (bytP 2 m ++ []))) = _
  simp only [List.append_nil, List.append_assoc]
theorem body_6 (e : m.kind = 6) : bodyM m = (((bodyH m ++ bytP 0 m) ++ bytP 3 m) ++ bytP 4 m) := by
  unfold bodyM kp
  rw [e]
  show bodyH m ++ ((bytP 0 m ++ (bytP 3 m ++ (bytP 4 m ++ [])))) = _
  simp only [List.append_nil, List.append_assoc]
theorem body_7 (e : m.kind = 7) : bodyM m = ((bodyH m ++ bytP 0 m) ++ bytP 3 m) := by
  unfold bodyM kp
  rw [e]
  show bodyH m ++ ((bytP 0 m ++ (bytP 3 m ++ []))) = _
  simp only [List.append_nil, List.append_assoc]
theorem body_8 (e : m.kind = 8) : bodyM m = ((((bodyH m ++ bytP 7 m) ++ bytP 8 m) ++ bytP 9 m) ++ bytP 11 m) := by
  unfold bodyM kp
  rw [e]
  show bodyH m ++ ((bytP 7 m ++ (bytP 8 m ++ (bytP 9 m ++ (bytP 11 m ++ []))))) = _
  simp only [List.append_nil, List.append_assoc]
theorem body_9 (e : m.kind = 9) : bodyM m = ((bodyH m ++ bytP 7 m) ++ bytP 8 m) := by
  unfold bodyM kp
  rw [e]
  show bodyH m ++ ((bytP 7 m ++ (bytP 8 m ++ []))) = _
  simp only [List.append_nil, List.append_assoc]
theorem body_10 (e : m.kind = 10) : bodyM m = ((((((((bodyH m ++ bytP 8 m) ++ bytP 9 m) ++ bytP 10 m) ++ bytP 11 m) ++ bytP 12 m) ++ bytP 13 m) ++ bytP 14 m) ++ bytP 15 m) := by
  unfold bodyM kp
  rw [e]
  show bodyH m ++ ((bytP 8 m ++ (bytP 9 m ++ (bytP 10 m ++ (bytP 11 m ++ (bytP 12 m ++ (bytP 13 m ++ (bytP 14 m ++ (bytP 15 m ++ []))))))))) = _
  simp only [List.append_nil, List.append_assoc]
theorem body_11 (e : m.kind = 11) : bodyM m = (((((bodyH m ++ bytP 11 m) ++ bytP 12 m) ++ bytP 13 m) ++ bytP 16 m) ++ bytP 17 m) := by
  unfold bodyM kp
  rw [e]
  show bodyH m ++ ((bytP 11 m ++ (bytP 12 m ++ (bytP 13 m ++ (bytP 16 m ++ (bytP 17 m ++ [])))))) = _
  simp only [List.append_nil, List.append_assoc]
set_option maxRecDepth 20000 in
theorem body_w1 {a : Nat} {j : Heap → Prop} (e : m.kind = 1) (hf : ∀ p < 18, p ∈ kp m.kind → mayB p m = true) (V : Stays h0 L fun h => Bytes h m.v m.b) (O : Sat h0 h (wrR p (bodyH m) :: own a (mgC m) :: L)) (hj : ∀ h', Sat h0 h' (wrR p (bodyM m) :: own a (mgC m) :: L) → j h') : (ld [.int .u64] (pt a 4) h fun (v0 : Int) => F_ref8_pen_number (some (pt p 0)) v0 h fun (h1 : Heap) => j h1) := by
  have hm : ∀ q < 18, q ∈ kp 1 → mayB q m = true := fun q hq hi => hf q hq (by rw [e]; exact hi)
  have hb := bodyH_len (m := m)
  have g0 : 0 ≤ m.epoch ∧ m.epoch ≤ ((1099511627776 : Nat) : Int) := of_decide_eq_true (hm 0 (by decide) (by decide))
  have w0 := (varB_le (n := m.epoch.toNat) (by omega)).1
  refine O.ld 1 rfl (ldL_c (ldL_n ?_))
  refine F_ref8_pen_number.is g0.1 (by omega) O (by first | omega | (simp only [List.length_append, fixB_len]; omega)) fun h O => ?_
  have O : Sat h0 h (wrR p ((bodyH m ++ bytP 0 m)) :: own a (mgC m) :: L) := O
  rw [← body_1 e] at O
  exact hj h O
set_option maxRecDepth 20000 in
theorem body_w2 {a : Nat} {j : Heap → Prop} (e : m.kind = 2) (hf : ∀ p < 18, p ∈ kp m.kind → mayB p m = true) (V : Stays h0 L fun h => Bytes h m.v m.b) (O : Sat h0 h (wrR p (bodyH m) :: own a (mgC m) :: L)) (hj : ∀ h', Sat h0 h' (wrR p (bodyM m) :: own a (mgC m) :: L) → j h') : (ld [.int .u64] (pt a 4) h fun (v0 : Int) => F_ref8_pen_number (some (pt p 0)) v0 h fun (h1 : Heap) => (ld [.int .u64] (pt a 5) h1 fun (v1 : Int) => F_ref8_pen_number (some (pt p 0)) v1 h1 fun (h2 : Heap) => (ld [.int .u64] (pt a 6) h2 fun (v2 : Int) => F_ref8_pen_number (some (pt p 0)) v2 h2 fun (h3 : Heap) => (ld [.sl] (pt a 10) h3 fun (v6 : Sl) => F_ref8_pen_text (some (pt p 0)) v6 h3 fun (h4 : Heap) => j h4)))) := by
  have hm : ∀ q < 18, q ∈ kp 2 → mayB q m = true := fun q hq hi => hf q hq (by rw [e]; exact hi)
  have hb := bodyH_len (m := m)
  have g0 : 0 ≤ m.epoch ∧ m.epoch ≤ ((1099511627776 : Nat) : Int) := of_decide_eq_true (hm 0 (by decide) (by decide))
  have w0 := (varB_le (n := m.epoch.toNat) (by omega)).1
  refine O.ld 1 rfl (ldL_c (ldL_n ?_))
  refine F_ref8_pen_number.is g0.1 (by omega) O (by first | omega | (simp only [List.length_append, fixB_len]; omega)) fun h O => ?_
  have g1 : 0 ≤ m.te ∧ m.te ≤ ((1099511627776 : Nat) : Int) := of_decide_eq_true (hm 1 (by decide) (by decide))
  have w1 := (varB_le (n := m.te.toNat) (by omega)).1
  refine O.ld 1 rfl (ldL_c (ldL_n ?_))
  refine F_ref8_pen_number.is g1.1 (by omega) O (by first | omega | (simp only [List.length_append, fixB_len]; omega)) fun h O => ?_
  have g2 : 0 ≤ m.ts ∧ m.ts ≤ ((1099511627776 : Nat) : Int) := of_decide_eq_true (hm 2 (by decide) (by decide))
  have w2 := (varB_le (n := m.ts.toNat) (by omega)).1
  refine O.ld 1 rfl (ldL_c (ldL_n ?_))
  refine F_ref8_pen_number.is g2.1 (by omega) O (by first | omega | (simp only [List.length_append, fixB_len]; omega)) fun h O => ?_
  have g6 : m.b.length ≤ 16384 := of_decide_eq_true (hm 6 (by decide) (by decide))
  have w6 := (varB_le (n := m.b.length) (by omega)).1
  refine O.ld 1 rfl (ldL_s (ldL_n ?_))
  refine F_ref8_pen_text.is (ys := m.b) (fun h O => V h O.drop) O (by first | omega | (simp only [List.length_append, fixB_len]; omega)) fun h O => ?_
  have O : Sat h0 h (wrR p (((((bodyH m ++ bytP 0 m) ++ bytP 1 m) ++ bytP 2 m) ++ bytP 6 m)) :: own a (mgC m) :: L) := O
  rw [← body_2 e] at O
  exact hj h O
set_option maxRecDepth 20000 in
theorem body_w3 {a : Nat} {j : Heap → Prop} (e : m.kind = 3) (hf : ∀ p < 18, p ∈ kp m.kind → mayB p m = true) (V : Stays h0 L fun h => Bytes h m.v m.b) (O : Sat h0 h (wrR p (bodyH m) :: own a (mgC m) :: L)) (hj : ∀ h', Sat h0 h' (wrR p (bodyM m) :: own a (mgC m) :: L) → j h') : (ld [.int .u64] (pt a 4) h fun (v0 : Int) => F_ref8_pen_number (some (pt p 0)) v0 h fun (h1 : Heap) => (ld [.int .u64] (pt a 9) h1 fun (v5 : Int) => F_ref8_pen_number (some (pt p 0)) v5 h1 fun (h2 : Heap) => j h2)) := by
  have hm : ∀ q < 18, q ∈ kp 3 → mayB q m = true := fun q hq hi => hf q hq (by rw [e]; exact hi)
  have hb := bodyH_len (m := m)
  have g0 : 0 ≤ m.epoch ∧ m.epoch ≤ ((1099511627776 : Nat) : Int) := of_decide_eq_true (hm 0 (by decide) (by decide))
  have w0 := (varB_le (n := m.epoch.toNat) (by omega)).1
  refine O.ld 1 rfl (ldL_c (ldL_n ?_))
  refine F_ref8_pen_number.is g0.1 (by omega) O (by first | omega | (simp only [List.length_append, fixB_len]; omega)) fun h O => ?_
  have g5 : 0 ≤ m.seen ∧ m.seen ≤ ((1099511627776 : Nat) : Int) := of_decide_eq_true (hm 5 (by decide) (by decide))
  have w5 := (varB_le (n := m.seen.toNat) (by omega)).1
  refine O.ld 1 rfl (ldL_c (ldL_n ?_))
  refine F_ref8_pen_number.is g5.1 (by omega) O (by first | omega | (simp only [List.length_append, fixB_len]; omega)) fun h O => ?_
  have O : Sat h0 h (wrR p (((bodyH m ++ bytP 0 m) ++ bytP 5 m)) :: own a (mgC m) :: L) := O
  rw [← body_3 e] at O
  exact hj h O
set_option maxRecDepth 20000 in
theorem body_w4 {a : Nat} {j : Heap → Prop} (e : m.kind = 4) (hf : ∀ p < 18, p ∈ kp m.kind → mayB p m = true) (V : Stays h0 L fun h => Bytes h m.v m.b) (O : Sat h0 h (wrR p (bodyH m) :: own a (mgC m) :: L)) (hj : ∀ h', Sat h0 h' (wrR p (bodyM m) :: own a (mgC m) :: L) → j h') : (ld [.int .u64] (pt a 5) h fun (v1 : Int) => F_ref8_pen_number (some (pt p 0)) v1 h fun (h1 : Heap) => (ld [.int .u64] (pt a 6) h1 fun (v2 : Int) => F_ref8_pen_number (some (pt p 0)) v2 h1 fun (h2 : Heap) => (ld [.int .i64] (pt a 8) h2 fun (v4 : Int) => F_ref8_pen_number (some (pt p 0)) (IntKind.u64.wrap v4) h2 fun (h3 : Heap) => (ld [.sl] (pt a 10) h3 fun (v6 : Sl) => F_ref8_pen_text (some (pt p 0)) v6 h3 fun (h4 : Heap) => j h4)))) := by
  have hm : ∀ q < 18, q ∈ kp 4 → mayB q m = true := fun q hq hi => hf q hq (by rw [e]; exact hi)
  have hb := bodyH_len (m := m)
  have g1 : 0 ≤ m.te ∧ m.te ≤ ((1099511627776 : Nat) : Int) := of_decide_eq_true (hm 1 (by decide) (by decide))
  have w1 := (varB_le (n := m.te.toNat) (by omega)).1
  refine O.ld 1 rfl (ldL_c (ldL_n ?_))
  refine F_ref8_pen_number.is g1.1 (by omega) O (by first | omega | (simp only [List.length_append, fixB_len]; omega)) fun h O => ?_
  have g2 : 0 ≤ m.ts ∧ m.ts ≤ ((1099511627776 : Nat) : Int) := of_decide_eq_true (hm 2 (by decide) (by decide))
  have w2 := (varB_le (n := m.ts.toNat) (by omega)).1
  refine O.ld 1 rfl (ldL_c (ldL_n ?_))
  refine F_ref8_pen_number.is g2.1 (by omega) O (by first | omega | (simp only [List.length_append, fixB_len]; omega)) fun h O => ?_
  have g4 : 0 ≤ m.span ∧ m.span ≤ ((1025 : Nat) : Int) := of_decide_eq_true (hm 4 (by decide) (by decide))
  have w4 := (varB_le (n := m.span.toNat) (by omega)).1
  refine O.ld 1 rfl (ldL_c (ldL_n ?_))
  rw [wrapu64 (x := m.span) (by omega) (by omega)]
  refine F_ref8_pen_number.is g4.1 (by omega) O (by first | omega | (simp only [List.length_append, fixB_len]; omega)) fun h O => ?_
  have g6 : m.b.length ≤ 16384 := of_decide_eq_true (hm 6 (by decide) (by decide))
  have w6 := (varB_le (n := m.b.length) (by omega)).1
  refine O.ld 1 rfl (ldL_s (ldL_n ?_))
  refine F_ref8_pen_text.is (ys := m.b) (fun h O => V h O.drop) O (by first | omega | (simp only [List.length_append, fixB_len]; omega)) fun h O => ?_
  have O : Sat h0 h (wrR p (((((bodyH m ++ bytP 1 m) ++ bytP 2 m) ++ bytP 4 m) ++ bytP 6 m)) :: own a (mgC m) :: L) := O
  rw [← body_4 e] at O
  exact hj h O
set_option maxRecDepth 20000 in
theorem body_w5 {a : Nat} {j : Heap → Prop} (e : m.kind = 5) (hf : ∀ p < 18, p ∈ kp m.kind → mayB p m = true) (V : Stays h0 L fun h => Bytes h m.v m.b) (O : Sat h0 h (wrR p (bodyH m) :: own a (mgC m) :: L)) (hj : ∀ h', Sat h0 h' (wrR p (bodyM m) :: own a (mgC m) :: L) → j h') : (ld [.int .u64] (pt a 5) h fun (v1 : Int) => F_ref8_pen_number (some (pt p 0)) v1 h fun (h1 : Heap) => (ld [.int .u64] (pt a 6) h1 fun (v2 : Int) => F_ref8_pen_number (some (pt p 0)) v2 h1 fun (h2 : Heap) => j h2)) := by
  have hm : ∀ q < 18, q ∈ kp 5 → mayB q m = true := fun q hq hi => hf q hq (by rw [e]; exact hi)
  have hb := bodyH_len (m := m)
  have g1 : 0 ≤ m.te ∧ m.te ≤ ((1099511627776 : Nat) : Int) := of_decide_eq_true (hm 1 (by decide) (by decide))
  have w1 := (varB_le (n := m.te.toNat) (by omega)).1
  refine O.ld 1 rfl (ldL_c (ldL_n ?_))
  refine F_ref8_pen_number.is g1.1 (by omega) O (by first | omega | (simp only [List.length_append, fixB_len]; omega)) fun h O => ?_
  have g2 : 0 ≤ m.ts ∧ m.ts ≤ ((1099511627776 : Nat) : Int) := of_decide_eq_true (hm 2 (by decide) (by decide))
  have w2 := (varB_le (n := m.ts.toNat) (by omega)).1
  refine O.ld 1 rfl (ldL_c (ldL_n ?_))
  refine F_ref8_pen_number.is g2.1 (by omega) O (by first | omega | (simp only [List.length_append, fixB_len]; omega)) fun h O => ?_
  have O : Sat h0 h (wrR p (((bodyH m ++ bytP 1 m) ++ bytP 2 m)) :: own a (mgC m) :: L) := O
  rw [← body_5 e] at O
  exact hj h O
set_option maxRecDepth 20000 in
theorem body_w6 {a : Nat} {j : Heap → Prop} (e : m.kind = 6) (hf : ∀ p < 18, p ∈ kp m.kind → mayB p m = true) (V : Stays h0 L fun h => Bytes h m.v m.b) (O : Sat h0 h (wrR p (bodyH m) :: own a (mgC m) :: L)) (hj : ∀ h', Sat h0 h' (wrR p (bodyM m) :: own a (mgC m) :: L) → j h') : (ld [.int .u64] (pt a 4) h fun (v0 : Int) => F_ref8_pen_number (some (pt p 0)) v0 h fun (h1 : Heap) => (ld [.int .u64] (pt a 7) h1 fun (v3 : Int) => F_ref8_pen_number (some (pt p 0)) v3 h1 fun (h2 : Heap) => (ld [.int .i64] (pt a 8) h2 fun (v4 : Int) => F_ref8_pen_number (some (pt p 0)) (IntKind.u64.wrap v4) h2 fun (h3 : Heap) => j h3))) := by
  have hm : ∀ q < 18, q ∈ kp 6 → mayB q m = true := fun q hq hi => hf q hq (by rw [e]; exact hi)
  have hb := bodyH_len (m := m)
  have g0 : 0 ≤ m.epoch ∧ m.epoch ≤ ((1099511627776 : Nat) : Int) := of_decide_eq_true (hm 0 (by decide) (by decide))
  have w0 := (varB_le (n := m.epoch.toNat) (by omega)).1
  refine O.ld 1 rfl (ldL_c (ldL_n ?_))
  refine F_ref8_pen_number.is g0.1 (by omega) O (by first | omega | (simp only [List.length_append, fixB_len]; omega)) fun h O => ?_
  have g3 : 0 ≤ m.round ∧ m.round ≤ ((1099511627776 : Nat) : Int) := of_decide_eq_true (hm 3 (by decide) (by decide))
  have w3 := (varB_le (n := m.round.toNat) (by omega)).1
  refine O.ld 1 rfl (ldL_c (ldL_n ?_))
  refine F_ref8_pen_number.is g3.1 (by omega) O (by first | omega | (simp only [List.length_append, fixB_len]; omega)) fun h O => ?_
  have g4 : 0 ≤ m.span ∧ m.span ≤ ((1025 : Nat) : Int) := of_decide_eq_true (hm 4 (by decide) (by decide))
  have w4 := (varB_le (n := m.span.toNat) (by omega)).1
  refine O.ld 1 rfl (ldL_c (ldL_n ?_))
  rw [wrapu64 (x := m.span) (by omega) (by omega)]
  refine F_ref8_pen_number.is g4.1 (by omega) O (by first | omega | (simp only [List.length_append, fixB_len]; omega)) fun h O => ?_
  have O : Sat h0 h (wrR p ((((bodyH m ++ bytP 0 m) ++ bytP 3 m) ++ bytP 4 m)) :: own a (mgC m) :: L) := O
  rw [← body_6 e] at O
  exact hj h O
set_option maxRecDepth 20000 in
theorem body_w7 {a : Nat} {j : Heap → Prop} (e : m.kind = 7) (hf : ∀ p < 18, p ∈ kp m.kind → mayB p m = true) (V : Stays h0 L fun h => Bytes h m.v m.b) (O : Sat h0 h (wrR p (bodyH m) :: own a (mgC m) :: L)) (hj : ∀ h', Sat h0 h' (wrR p (bodyM m) :: own a (mgC m) :: L) → j h') : (ld [.int .u64] (pt a 4) h fun (v0 : Int) => F_ref8_pen_number (some (pt p 0)) v0 h fun (h1 : Heap) => (ld [.int .u64] (pt a 7) h1 fun (v3 : Int) => F_ref8_pen_number (some (pt p 0)) v3 h1 fun (h2 : Heap) => j h2)) := by
  have hm : ∀ q < 18, q ∈ kp 7 → mayB q m = true := fun q hq hi => hf q hq (by rw [e]; exact hi)
  have hb := bodyH_len (m := m)
  have g0 : 0 ≤ m.epoch ∧ m.epoch ≤ ((1099511627776 : Nat) : Int) := of_decide_eq_true (hm 0 (by decide) (by decide))
  have w0 := (varB_le (n := m.epoch.toNat) (by omega)).1
  refine O.ld 1 rfl (ldL_c (ldL_n ?_))
  refine F_ref8_pen_number.is g0.1 (by omega) O (by first | omega | (simp only [List.length_append, fixB_len]; omega)) fun h O => ?_
  have g3 : 0 ≤ m.round ∧ m.round ≤ ((1099511627776 : Nat) : Int) := of_decide_eq_true (hm 3 (by decide) (by decide))
  have w3 := (varB_le (n := m.round.toNat) (by omega)).1
  refine O.ld 1 rfl (ldL_c (ldL_n ?_))
  refine F_ref8_pen_number.is g3.1 (by omega) O (by first | omega | (simp only [List.length_append, fixB_len]; omega)) fun h O => ?_
  have O : Sat h0 h (wrR p (((bodyH m ++ bytP 0 m) ++ bytP 3 m)) :: own a (mgC m) :: L) := O
  rw [← body_7 e] at O
  exact hj h O
set_option maxRecDepth 20000 in
theorem body_w8 {a : Nat} {j : Heap → Prop} (e : m.kind = 8) (hf : ∀ p < 18, p ∈ kp m.kind → mayB p m = true) (V : Stays h0 L fun h => Bytes h m.v m.b) (O : Sat h0 h (wrR p (bodyH m) :: own a (mgC m) :: L)) (hj : ∀ h', Sat h0 h' (wrR p (bodyM m) :: own a (mgC m) :: L) → j h') : (ld [.int .i64] (pt a 11) h fun (v7 : Int) => F_ref8_pen_small (some (pt p 0)) v7 h fun (h1 : Heap) => (ld [.int .u64] (pt a 12) h1 fun (v8 : Int) => F_ref8_pen_number (some (pt p 0)) v8 h1 fun (h2 : Heap) => (ld [.str] (pt a 13) h2 fun (v9 : ByteArray) => s2b 5 v9 h2 fun (s9 : Sl) (h3 : Heap) => F_ref8_pen_text (some (pt p 0)) s9 h3 fun (h4 : Heap) => (ld [.int .u64] (pt a 15) h4 fun (v11 : Int) => F_ref8_pen_number (some (pt p 0)) v11 h4 fun (h5 : Heap) => j h5)))) := by
  have hm : ∀ q < 18, q ∈ kp 8 → mayB q m = true := fun q hq hi => hf q hq (by rw [e]; exact hi)
  have hb := bodyH_len (m := m)
  have g7 : 0 ≤ m.peer ∧ m.peer ≤ ((7 : Nat) : Int) := of_decide_eq_true (hm 7 (by decide) (by decide))
  refine O.ld 1 rfl (ldL_c (ldL_n ?_))
  refine F_ref8_pen_small.is g7.1 O (by first | omega | (simp only [List.length_append, fixB_len]; omega)) fun h O => ?_
  have g8 : 0 ≤ m.num ∧ m.num ≤ ((1099511627776 : Nat) : Int) := of_decide_eq_true (hm 8 (by decide) (by decide))
  have w8 := (varB_le (n := m.num.toNat) (by omega)).1
  refine O.ld 1 rfl (ldL_c (ldL_n ?_))
  refine F_ref8_pen_number.is g8.1 (by omega) O (by first | omega | (simp only [List.length_append, fixB_len]; omega)) fun h O => ?_
  have g9 : m.name.data.toList.length ≤ 64 := of_decide_eq_true (hm 9 (by decide) (by decide))
  have w9 := (varB_le (n := m.name.data.toList.length) (by omega)).1
  refine O.ld 1 rfl (ldL_c (ldL_n ?_))
  refine O.s2bM (xs := m.name.data.toList) rfl fun s h O => ?_
  refine F_ref8_pen_text.is (ys := m.name.data.toList) (fun h O => (O.view 0 u8_len (by simp) rfl).1) O.swap (by first | omega | (simp only [List.length_append, fixB_len]; omega)) fun h O => ?_
  have O := O.swap.drop
  have g11 : 0 ≤ m.amount ∧ m.amount ≤ ((9007199254740992 : Nat) : Int) := of_decide_eq_true (hm 11 (by decide) (by decide))
  have w11 := (varB_le (n := m.amount.toNat) (by omega)).1
  refine O.ld 1 rfl (ldL_c (ldL_n ?_))
  refine F_ref8_pen_number.is g11.1 (by omega) O (by first | omega | (simp only [List.length_append, fixB_len]; omega)) fun h O => ?_
  have O : Sat h0 h (wrR p (((((bodyH m ++ bytP 7 m) ++ bytP 8 m) ++ bytP 9 m) ++ bytP 11 m)) :: own a (mgC m) :: L) := O
  rw [← body_8 e] at O
  exact hj h O
set_option maxRecDepth 20000 in
theorem body_w9 {a : Nat} {j : Heap → Prop} (e : m.kind = 9) (hf : ∀ p < 18, p ∈ kp m.kind → mayB p m = true) (V : Stays h0 L fun h => Bytes h m.v m.b) (O : Sat h0 h (wrR p (bodyH m) :: own a (mgC m) :: L)) (hj : ∀ h', Sat h0 h' (wrR p (bodyM m) :: own a (mgC m) :: L) → j h') : (ld [.int .i64] (pt a 11) h fun (v7 : Int) => F_ref8_pen_small (some (pt p 0)) v7 h fun (h1 : Heap) => (ld [.int .u64] (pt a 12) h1 fun (v8 : Int) => F_ref8_pen_number (some (pt p 0)) v8 h1 fun (h2 : Heap) => j h2)) := by
  have hm : ∀ q < 18, q ∈ kp 9 → mayB q m = true := fun q hq hi => hf q hq (by rw [e]; exact hi)
  have hb := bodyH_len (m := m)
  have g7 : 0 ≤ m.peer ∧ m.peer ≤ ((7 : Nat) : Int) := of_decide_eq_true (hm 7 (by decide) (by decide))
  refine O.ld 1 rfl (ldL_c (ldL_n ?_))
  refine F_ref8_pen_small.is g7.1 O (by first | omega | (simp only [List.length_append, fixB_len]; omega)) fun h O => ?_
  have g8 : 0 ≤ m.num ∧ m.num ≤ ((1099511627776 : Nat) : Int) := of_decide_eq_true (hm 8 (by decide) (by decide))
  have w8 := (varB_le (n := m.num.toNat) (by omega)).1
  refine O.ld 1 rfl (ldL_c (ldL_n ?_))
  refine F_ref8_pen_number.is g8.1 (by omega) O (by first | omega | (simp only [List.length_append, fixB_len]; omega)) fun h O => ?_
  have O : Sat h0 h (wrR p (((bodyH m ++ bytP 7 m) ++ bytP 8 m)) :: own a (mgC m) :: L) := O
  rw [← body_9 e] at O
  exact hj h O
set_option maxRecDepth 20000 in
theorem body_w10 {a : Nat} {j : Heap → Prop} (e : m.kind = 10) (hf : ∀ p < 18, p ∈ kp m.kind → mayB p m = true) (V : Stays h0 L fun h => Bytes h m.v m.b) (O : Sat h0 h (wrR p (bodyH m) :: own a (mgC m) :: L)) (hj : ∀ h', Sat h0 h' (wrR p (bodyM m) :: own a (mgC m) :: L) → j h') : (ld [.int .u64] (pt a 12) h fun (v8 : Int) => F_ref8_pen_number (some (pt p 0)) v8 h fun (h1 : Heap) => (ld [.str] (pt a 13) h1 fun (v9 : ByteArray) => s2b 5 v9 h1 fun (s9 : Sl) (h2 : Heap) => F_ref8_pen_text (some (pt p 0)) s9 h2 fun (h3 : Heap) => (ld [.str] (pt a 14) h3 fun (v10 : ByteArray) => s2b 5 v10 h3 fun (s10 : Sl) (h4 : Heap) => F_ref8_pen_text (some (pt p 0)) s10 h4 fun (h5 : Heap) => (ld [.int .u64] (pt a 15) h5 fun (v11 : Int) => F_ref8_pen_number (some (pt p 0)) v11 h5 fun (h6 : Heap) => (ld [.int .u64] (pt a 16) h6 fun (v12 : Int) => F_ref8_pen_number (some (pt p 0)) v12 h6 fun (h7 : Heap) => (ld [.int .u64] (pt a 17) h7 fun (v13 : Int) => F_ref8_pen_number (some (pt p 0)) v13 h7 fun (h8 : Heap) => (ld [.int .i64] (pt a 18) h8 fun (v14 : Int) => F_ref8_pen_small (some (pt p 0)) v14 h8 fun (h9 : Heap) => (ld [.int .i64] (pt a 19) h9 fun (v15 : Int) => F_ref8_pen_small (some (pt p 0)) v15 h9 fun (h10 : Heap) => j h10)))))))) := by
  have hm : ∀ q < 18, q ∈ kp 10 → mayB q m = true := fun q hq hi => hf q hq (by rw [e]; exact hi)
  have hb := bodyH_len (m := m)
  have g8 : 0 ≤ m.num ∧ m.num ≤ ((1099511627776 : Nat) : Int) := of_decide_eq_true (hm 8 (by decide) (by decide))
  have w8 := (varB_le (n := m.num.toNat) (by omega)).1
  refine O.ld 1 rfl (ldL_c (ldL_n ?_))
  refine F_ref8_pen_number.is g8.1 (by omega) O (by first | omega | (simp only [List.length_append, fixB_len]; omega)) fun h O => ?_
  have g9 : m.name.data.toList.length ≤ 64 := of_decide_eq_true (hm 9 (by decide) (by decide))
  have w9 := (varB_le (n := m.name.data.toList.length) (by omega)).1
  refine O.ld 1 rfl (ldL_c (ldL_n ?_))
  refine O.s2bM (xs := m.name.data.toList) rfl fun s h O => ?_
  refine F_ref8_pen_text.is (ys := m.name.data.toList) (fun h O => (O.view 0 u8_len (by simp) rfl).1) O.swap (by first | omega | (simp only [List.length_append, fixB_len]; omega)) fun h O => ?_
  have O := O.swap.drop
  have g10 : m.other.data.toList.length ≤ 64 := of_decide_eq_true (hm 10 (by decide) (by decide))
  have w10 := (varB_le (n := m.other.data.toList.length) (by omega)).1
  refine O.ld 1 rfl (ldL_c (ldL_n ?_))
  refine O.s2bM (xs := m.other.data.toList) rfl fun s h O => ?_
  refine F_ref8_pen_text.is (ys := m.other.data.toList) (fun h O => (O.view 0 u8_len (by simp) rfl).1) O.swap (by first | omega | (simp only [List.length_append, fixB_len]; omega)) fun h O => ?_
  have O := O.swap.drop
  have g11 : 0 ≤ m.amount ∧ m.amount ≤ ((9007199254740992 : Nat) : Int) := of_decide_eq_true (hm 11 (by decide) (by decide))
  have w11 := (varB_le (n := m.amount.toNat) (by omega)).1
  refine O.ld 1 rfl (ldL_c (ldL_n ?_))
  refine F_ref8_pen_number.is g11.1 (by omega) O (by first | omega | (simp only [List.length_append, fixB_len]; omega)) fun h O => ?_
  have g12 : 0 ≤ m.life ∧ m.life ≤ ((1099511627776 : Nat) : Int) := of_decide_eq_true (hm 12 (by decide) (by decide))
  have w12 := (varB_le (n := m.life.toNat) (by omega)).1
  refine O.ld 1 rfl (ldL_c (ldL_n ?_))
  refine F_ref8_pen_number.is g12.1 (by omega) O (by first | omega | (simp only [List.length_append, fixB_len]; omega)) fun h O => ?_
  have g13 : 0 ≤ m.id ∧ m.id ≤ ((1099511627776 : Nat) : Int) := of_decide_eq_true (hm 13 (by decide) (by decide))
  have w13 := (varB_le (n := m.id.toNat) (by omega)).1
  refine O.ld 1 rfl (ldL_c (ldL_n ?_))
  refine F_ref8_pen_number.is g13.1 (by omega) O (by first | omega | (simp only [List.length_append, fixB_len]; omega)) fun h O => ?_
  have g14 : 0 ≤ m.op ∧ m.op ≤ ((3 : Nat) : Int) := of_decide_eq_true (hm 14 (by decide) (by decide))
  refine O.ld 1 rfl (ldL_c (ldL_n ?_))
  refine F_ref8_pen_small.is g14.1 O (by first | omega | (simp only [List.length_append, fixB_len]; omega)) fun h O => ?_
  have g15 : 0 ≤ m.client ∧ m.client ≤ ((7 : Nat) : Int) := of_decide_eq_true (hm 15 (by decide) (by decide))
  refine O.ld 1 rfl (ldL_c (ldL_n ?_))
  refine F_ref8_pen_small.is g15.1 O (by first | omega | (simp only [List.length_append, fixB_len]; omega)) fun h O => ?_
  have O : Sat h0 h (wrR p (((((((((bodyH m ++ bytP 8 m) ++ bytP 9 m) ++ bytP 10 m) ++ bytP 11 m) ++ bytP 12 m) ++ bytP 13 m) ++ bytP 14 m) ++ bytP 15 m)) :: own a (mgC m) :: L) := O
  rw [← body_10 e] at O
  exact hj h O
set_option maxRecDepth 20000 in
theorem body_w11 {a : Nat} {j : Heap → Prop} (e : m.kind = 11) (hf : ∀ p < 18, p ∈ kp m.kind → mayB p m = true) (V : Stays h0 L fun h => Bytes h m.v m.b) (O : Sat h0 h (wrR p (bodyH m) :: own a (mgC m) :: L)) (hj : ∀ h', Sat h0 h' (wrR p (bodyM m) :: own a (mgC m) :: L) → j h') : (ld [.int .u64] (pt a 15) h fun (v11 : Int) => F_ref8_pen_number (some (pt p 0)) v11 h fun (h1 : Heap) => (ld [.int .u64] (pt a 16) h1 fun (v12 : Int) => F_ref8_pen_number (some (pt p 0)) v12 h1 fun (h2 : Heap) => (ld [.int .u64] (pt a 17) h2 fun (v13 : Int) => F_ref8_pen_number (some (pt p 0)) v13 h2 fun (h3 : Heap) => (ld [.int .i64] (pt a 20) h3 fun (v16 : Int) => F_ref8_pen_small (some (pt p 0)) v16 h3 fun (h4 : Heap) => (ld [.int .i64] (pt a 21) h4 fun (v17 : Int) => F_ref8_pen_number (some (pt p 0)) (IntKind.u64.wrap v17) h4 fun (h5 : Heap) => j h5))))) := by
  have hm : ∀ q < 18, q ∈ kp 11 → mayB q m = true := fun q hq hi => hf q hq (by rw [e]; exact hi)
  have hb := bodyH_len (m := m)
  have g11 : 0 ≤ m.amount ∧ m.amount ≤ ((9007199254740992 : Nat) : Int) := of_decide_eq_true (hm 11 (by decide) (by decide))
  have w11 := (varB_le (n := m.amount.toNat) (by omega)).1
  refine O.ld 1 rfl (ldL_c (ldL_n ?_))
  refine F_ref8_pen_number.is g11.1 (by omega) O (by first | omega | (simp only [List.length_append, fixB_len]; omega)) fun h O => ?_
  have g12 : 0 ≤ m.life ∧ m.life ≤ ((1099511627776 : Nat) : Int) := of_decide_eq_true (hm 12 (by decide) (by decide))
  have w12 := (varB_le (n := m.life.toNat) (by omega)).1
  refine O.ld 1 rfl (ldL_c (ldL_n ?_))
  refine F_ref8_pen_number.is g12.1 (by omega) O (by first | omega | (simp only [List.length_append, fixB_len]; omega)) fun h O => ?_
  have g13 : 0 ≤ m.id ∧ m.id ≤ ((1099511627776 : Nat) : Int) := of_decide_eq_true (hm 13 (by decide) (by decide))
  have w13 := (varB_le (n := m.id.toNat) (by omega)).1
  refine O.ld 1 rfl (ldL_c (ldL_n ?_))
  refine F_ref8_pen_number.is g13.1 (by omega) O (by first | omega | (simp only [List.length_append, fixB_len]; omega)) fun h O => ?_
  have g16 : 0 ≤ m.state ∧ m.state ≤ ((4 : Nat) : Int) := of_decide_eq_true (hm 16 (by decide) (by decide))
  refine O.ld 1 rfl (ldL_c (ldL_n ?_))
  refine F_ref8_pen_small.is g16.1 O (by first | omega | (simp only [List.length_append, fixB_len]; omega)) fun h O => ?_
  have g17 : 0 ≤ m.bad ∧ m.bad ≤ 307 := by
    have : m.bad = 0 ∨ (300 ≤ m.bad ∧ m.bad ≤ 307) := of_decide_eq_true (hm 17 (by decide) (by decide))
    omega
  have w17 := (varB_le (n := m.bad.toNat) (by omega)).1
  refine O.ld 1 rfl (ldL_c (ldL_n ?_))
  rw [wrapu64 (x := m.bad) (by omega) (by omega)]
  refine F_ref8_pen_number.is g17.1 (by omega) O (by first | omega | (simp only [List.length_append, fixB_len]; omega)) fun h O => ?_
  have O : Sat h0 h (wrR p ((((((bodyH m ++ bytP 11 m) ++ bytP 12 m) ++ bytP 13 m) ++ bytP 16 m) ++ bytP 17 m)) :: own a (mgC m) :: L) := O
  rw [← body_11 e] at O
  exact hj h O
theorem zero_may {p : Nat} (h : zeroB p m = true) : mayB p m = true := by
  unfold zeroB at h
  unfold mayB
  by_cases h2 : pk p = 2
  · rw [if_pos h2] at h ⊢
    have := of_decide_eq_true h
    exact decide_eq_true (by omega)
  · rw [if_neg h2] at h ⊢
    have := of_decide_eq_true h
    split
    · rename_i e
      subst e
      exact decide_eq_true (.inl this)
    · exact decide_eq_true (by omega)
theorem body_le (hw : wrongM m = 0) : (bodyM m).length ≤ 300000 := by
  obtain ⟨hk, hh, hf⟩ := wrong_zero hw
  have := fields_le (m := m) (fs := usN m.kind.toNat) fun f hfm => by
    unfold mayF
    rw [List.all_eq_true]
    intro p hp
    exact (hf p (fp_lt hp).1).1 ((fp_us hp).2 hfm)
  have h7 := (us_small m.kind.toNat).1
  rw [flat_kp] at this
  unfold bodyM bodyH
  simp only [List.length_append, fixB_len]
  omega
theorem F_ref8_Body.is {Q : Sl → Heap → Prop} (O : Sat h0 h L) (hw : wrongM m = 0) (V : Stays h0 L fun h => Bytes h m.v m.b) (k : ∀ s h', Sat h0 h' (buf 1 u8 s (bodyM m) :: L) → Q s h') : F_ref8_Body m.kind m.frm m.to m.shard m.epoch m.te m.ts m.round m.span m.seen m.v m.peer m.num m.name m.other m.amount m.life m.id m.op m.client m.state m.bad h Q := by
  rw [F_ref8_Body.eq_1, F_ref8_Body_of.eq_1]
  obtain ⟨hk, hh, hf⟩ := wrong_zero hw
  have hf1 : ∀ p < 18, p ∈ kp m.kind → mayB p m = true := fun p hp => (hf p hp).1
  refine O.al fun a h O => ?_
  have O : Sat h0 h (own a (mgC m) :: L) := O
  simp only [nn_some, pt_add, Nat.zero_add, Nat.add_zero, Nat.reduceAdd, Nat.reduceMul, Int.toNat_zero, Int.toNat_one, Nat.zero_mul, Nat.one_mul]
  refine O.ld 0 rfl (ldL_c (ldL_n ?_))
  refine O.ld 0 rfl (ldL_c (ldL_n ?_))
  refine O.ld 0 rfl (ldL_c (ldL_n ?_))
  refine O.ld 0 rfl (ldL_c (ldL_n ?_))
  refine O.al fun c h O => ?_
  have ec : ([.int .u8 (IntKind.u8.wrap m.kind), .int .u8 (IntKind.u8.wrap m.frm), .int .u8 (IntKind.u8.wrap m.to), .int .u8 (IntKind.u8.wrap m.shard)] : List Value) = (bodyH m).flatMap u8 ++ [] := by
    unfold bodyH
    rw [List.flatMap_append, List.flatMap_append, List.flatMap_append, ← fix1 (by omega), ← fix1 (by omega), ← fix1 (by omega), ← fix1 (by omega)]
    rfl
  rw [ec] at O
  have O := (O.own_buf (k := 0) (sz := 1) (by rfl)).bufsI
  rw [bodyH_len] at O
  refine O.al fun p h O => ?_
  have O := Sat.wrI (s := ⟨some (pt c 0), 4, 4⟩) O
  refine O.ld 1 rfl (ldL_c (ldL_n ?_))
  refine jn0 (fun h' => Sat h0 h' (wrR p (bodyM m) :: own a (mgC m) :: L)) ?_ ?_
  · clear O
    intro h O
    simp only [nn_some, pt_add, Nat.zero_add, Nat.add_zero, Nat.reduceAdd, Nat.reduceMul, Int.toNat_zero, Int.toNat_one, Nat.zero_mul, Nat.one_mul]
    obtain ⟨s, O⟩ := O.wr
    refine O.ld 0 rfl (ldL_c (ldL_n ?_))
    exact k _ _ (O.sel [1] 3 rfl (Nat.le_add_left _ _))
  · intro j hj
    refine brr_eq (fun e => body_w1 e hf1 V O hj) (fun n1 => ?_)
    refine jn_go ?_
    refine brr_eq (fun e => body_w2 e hf1 V O hj) (fun n2 => ?_)
    refine jn_go ?_
    refine brr_eq (fun e => body_w3 e hf1 V O hj) (fun n3 => ?_)
    refine jn_go ?_
    refine brr_eq (fun e => body_w4 e hf1 V O hj) (fun n4 => ?_)
    refine jn_go ?_
    refine brr_eq (fun e => body_w5 e hf1 V O hj) (fun n5 => ?_)
    refine jn_go ?_
    refine brr_eq (fun e => body_w6 e hf1 V O hj) (fun n6 => ?_)
    refine jn_go ?_
    refine brr_eq (fun e => body_w7 e hf1 V O hj) (fun n7 => ?_)
    refine jn_go ?_
    refine brr_eq (fun e => body_w8 e hf1 V O hj) (fun n8 => ?_)
    refine jn_go ?_
    refine brr_eq (fun e => body_w9 e hf1 V O hj) (fun n9 => ?_)
    refine jn_go ?_
    refine brr_eq (fun e => body_w10 e hf1 V O hj) (fun n10 => ?_)
    refine jn_go ?_
    refine brr_eq (fun e => body_w11 e hf1 V O hj) (fun n11 => ?_)
    exact absurd hk (by omega)
theorem F_ref8_Encode.is {Q : Sl → Int → Heap → Prop} (O : Sat h0 h L) (V : Stays h0 L fun h => Bytes h m.v m.b) (hb : m.b.length < 4611686018427387904) (ok : Pos m) (k : ∀ s h', Sat h0 h' (buf 1 u8 s (encB m) :: L) → Q s (wrongM m) h') : F_ref8_Encode m.kind m.frm m.to m.shard m.epoch m.te m.ts m.round m.span m.seen m.v m.peer m.num m.name m.other m.amount m.life m.id m.op m.client m.state m.bad h Q := by
  rw [F_ref8_Encode.eq_1, F_ref8_Encode_of.eq_1]
  refine O.al fun a h O => ?_
  have O : Sat h0 h (own a (mgC m) :: L) := O
  have hv : m.v.len = m.b.length := (V h O.drop).len
  refine jn1 (fun (z : Bool) h' => h' = h ∧ z = !kindB m) ?_ ?_
  · rintro z h1 ⟨e, rfl⟩
    subst e
    refine brr_of (fun e => ?_) (fun e => ?_)
    · have ek : wrongM m = 80 := by unfold wrongM; rw [if_neg (by simpa using e)]
      have := k ⟨none, 0, 0⟩ h1 (by
        unfold encB
        rw [if_neg (by omega)]
        exact O.drop.nil_buf)
      rwa [ek] at this
    have hk1 : kindB m = true := by simpa using e
    refine jn1 (fun (z : Bool) h' => Sat h0 h' (own a (mgC m) :: L) ∧ (z = true ↔ ¬ (headB m = true ∧ fldB m = true))) ?_ ?_
    · clear O
      rintro z h ⟨O, hz⟩
      refine brr_of (fun e => ?_) (fun e => ?_)
      · have ek : wrongM m = 83 := by unfold wrongM; rw [if_pos hk1, if_neg (hz.1 e)]
        have := k ⟨none, 0, 0⟩ h (by
          unfold encB
          rw [if_neg (by omega)]
          exact O.drop.nil_buf)
        rwa [ek] at this
      · have hg : headB m = true ∧ fldB m = true := Decidable.byContradiction fun g => by
          have := hz.2 g
          rw [e] at this
          cases this
        have ek : wrongM m = 0 := by unfold wrongM; rw [if_pos hk1, if_pos hg]
        refine O.ld 0 rfl (mgC_ldA ?_)
        refine F_ref8_Body.is O ek (fun h O => V h O.drop) fun s h O => ?_
        have hlen : (bodyM m).length ≤ 300000 := body_le ek
        refine F_ref8_Seal.is O (fun h O => (O.view 0 u8_len (by simp) rfl).1) (by omega) fun s2 h O => ?_
        have O := O.sel [0] 3 rfl (Nat.le_add_left _ _)
        have := k s2 h (by
          unfold encB
          rw [if_pos ek]
          exact O)
        rwa [ek] at this
    · intro j hj
      refine O.ld 0 rfl (mgC_ldA ?_)
      refine O.ld 0 rfl (mgC_ldA ?_)
      refine F_ref8_Only.is O fun h O => ?_
      have c := O.cells 0 rfl 0 (mgC m).length
      rw [List.drop_zero, List.take_length] at c
      refine ⟨c, ?_⟩
      have Vo : Stays h0 (own a (mgC m) :: L) fun h => Bytes h (onlyM m).v (onlyM m).b := by
        intro h O
        unfold onlyM
        by_cases h6 : 6 ∈ kp m.kind
        · have eb : ((kp m.kind).foldl (putMg m) (hdM m)).b = m.b := ((putMg_get (m := m) (q := 6) (by decide) (kp m.kind) (hdM m)).2 rfl).1 h6
          show Bytes h (if 6 ∈ kp m.kind then m.v else ⟨none, 0, 0⟩) ((kp m.kind).foldl (putMg m) (hdM m)).b
          rw [if_pos h6, eb]
          exact V h O.drop
        · have eb : ((kp m.kind).foldl (putMg m) (hdM m)).b = (hdM m).b := ((putMg_get (m := m) (q := 6) (by decide) (kp m.kind) (hdM m)).2 rfl).2 h6
          show Bytes h (if 6 ∈ kp m.kind then m.v else ⟨none, 0, 0⟩) ((kp m.kind).foldl (putMg m) (hdM m)).b
          rw [if_neg h6, eb]
          exact View.nil
      have ho : (onlyM m).b.length < 4611686018427387904 := by
        show ((kp m.kind).foldl (putMg m) (hdM m)).b.length < _
        by_cases h6 : 6 ∈ kp m.kind
        · have eb : ((kp m.kind).foldl (putMg m) (hdM m)).b = m.b := ((putMg_get (m := m) (q := 6) (by decide) (kp m.kind) (hdM m)).2 rfl).1 h6
          rw [eb]; exact hb
        · have eb : ((kp m.kind).foldl (putMg m) (hdM m)).b = (hdM m).b := ((putMg_get (m := m) (q := 6) (by decide) (kp m.kind) (hdM m)).2 rfl).2 h6
          rw [eb]; exact Nat.lt_of_lt_of_le (by decide : 0 < 1) (by decide)
      refine F_ref0_EqMsg.is (n := onlyM m) O (fun h O => V h O.drop) Vo hb ho fun z h O hz => ?_
      rw [only_iff] at hz
      have fz : fldB m = true ↔ ∀ p < 18, (p ∈ kp m.kind → mayB p m = true) ∧ (p ∉ kp m.kind → zeroB p m = true) := by
        unfold fldB
        rw [List.all_eq_true]
        constructor
        · intro g p hp
          have := g p (List.mem_range.2 hp)
          refine ⟨fun hm => ?_, fun hm => ?_⟩
          · rwa [if_pos hm] at this
          · rwa [if_neg hm] at this
        · intro g p hp
          have := g p (List.mem_range.1 hp)
          by_cases hm : p ∈ kp m.kind
          · rw [if_pos hm]; exact this.1 hm
          · rw [if_neg hm]; exact this.2 hm
      refine brr_of (fun e => ?_) (fun e => ?_)
      · refine hj _ _ ⟨O, ⟨fun _ g => ?_, fun _ => rfl⟩⟩
        have h2 := fz.1 g.2
        have := hz.2 fun p hp => (h2 p hp).2
        rw [this] at e
        cases e
      · have hz1 := hz.1 (by simpa using e)
        refine O.ld 0 rfl (mgC_ldA ?_)
        refine F_ref8_May.is O hv fun z2 h O h2 => ?_
        rw [may_all ok] at h2
        refine hj _ _ ⟨O, ?_⟩
        have key : (headB m = true ∧ fldB m = true) ↔ (headB m = true ∧ ∀ p < 18, mayB p m = true) := by
          refine and_congr_right fun _ => ?_
          rw [fz]
          constructor
          · intro g p hp
            by_cases hm : p ∈ kp m.kind
            · exact (g p hp).1 hm
            · exact zero_may (hz1 p hp hm)
          · exact fun g p hp => ⟨fun _ => g p hp, fun hm => hz1 p hp hm⟩
        rw [key, ← h2]
        cases z2 <;> simp
  · intro j hj
    simp only [nn_some, pt_add, Nat.zero_add, Nat.add_zero, Nat.reduceAdd, Nat.reduceMul, Int.toNat_zero, Int.toNat_one, Nat.zero_mul, Nat.one_mul]
    refine O.ld 0 rfl (ldL_c (ldL_n ?_))
    refine brr_p (fun h1 => ?_) (fun h1 => ?_)
    · refine hj _ _ ⟨rfl, ?_⟩
      unfold kindB
      simp; omega
    · refine O.ld 0 rfl (ldL_c (ldL_n ?_))
      refine hj _ _ ⟨rfl, ?_⟩
      unfold kindB
      rw [← decide_not]
      exact decide_eq_decide.2 (by omega)
end
end Go.Proofs.YthiginhigfieiaaGreatDoor.V
namespace Go.Proofs.YthiginhigfieiaaGreatDoor.V
open Go Go.RowKit
set_option linter.unusedVariables false
set_option maxRecDepth 100000
def F_ref8_eye_small_of (f144_ : Y2) (e1 : Option Addr) (h : Heap) (Q : Int → Heap → Prop) : Prop :=
  nn e1 fun (a2 : Addr) =>
  ld [.ptr] (a2.add 0) h fun (v3 : Option Addr) =>
  f144_ v3 h fun (r4 : Int) (h5 : Heap) =>
  Q (IntKind.i64.wrap r4) h5
def F_ref8_eye_small (e1 : Option Addr) (h : Heap) (Q : Int → Heap → Prop) : Prop := F_ref8_eye_small_of F_ref1_Eye_U8 e1 h Q
def plan99 : Plan := .s (.r [0]) (.s (.r [2]) .z)
theorem F_ref8_eye_small.eq (f144_ : Y2) (e1 : Option Addr) (h : Heap) (K : YV) : F_ref8_eye_small_of f144_ e1 h (fun (r0 : Int) (h : Heap) => K (.int .i64 r0) h) =
    den Tryz.prog (fn1 144 (E_ref1_Eye_U8_of f144_) noFns) Tryz.f99.ntmps plan99 (bodyOf Tryz.f99) (args0 0 [(.pointer e1 : Value)]) h (konF Tryz.f99 K) := by kernel_rfl
def E_ref8_eye_small_of (f : Y2) : List Value → Heap → YV → Prop
  | [v0], h, K => dec1 .ptr v0 fun (e1 : Option Addr) =>
  f e1 h (fun (r0 : Int) (h : Heap) => K (.int .i64 r0) h)
  | _, _, _ => False
abbrev E_ref8_eye_small := E_ref8_eye_small_of F_ref8_eye_small
theorem E_ref8_eye_small.right : IsRight Tryz.prog 99 E_ref8_eye_small := by
  refine isRight fun vs K w hh => ?_
  match vs, hh with
  | [v0], hh =>
    unfold E_ref8_eye_small E_ref8_eye_small_of at hh
    replace hh := dec1_sound hh; obtain ⟨e1, rfl, hh⟩ := hh
    unfold F_ref8_eye_small at hh
    exact calls_den (fn1_right ok144 E_ref1_Eye_U8.right noFns_right) plan99 _ w K Tryz.func99 (by kernel_rfl) (by kernel_rfl) (Eq.mp (F_ref8_eye_small.eq F_ref1_Eye_U8 e1 w.heap K) hh)
theorem ok99 : okFn Tryz.prog 99 = true := by kernel_rfl
def F_ref8_eye_number_of (f145_ : Y10) (e1 : Option Addr) (h : Heap) (Q : Int → Heap → Prop) : Prop :=
  nn e1 fun (a2 : Addr) =>
  ld [.ptr] (a2.add 0) h fun (v3 : Option Addr) =>
  f145_ v3 18446744073709551615 h fun (r4 : Int) (h5 : Heap) =>
  Q r4 h5
def F_ref8_eye_number (e1 : Option Addr) (h : Heap) (Q : Int → Heap → Prop) : Prop := F_ref8_eye_number_of F_ref1_Eye_Var e1 h Q
def plan100 : Plan := .s (.r [0]) (.s (.r [2]) .z)
theorem F_ref8_eye_number.eq (f145_ : Y10) (e1 : Option Addr) (h : Heap) (K : YV) : F_ref8_eye_number_of f145_ e1 h (fun (r0 : Int) (h : Heap) => K (.int .u64 r0) h) =
    den Tryz.prog (fn1 145 (E_ref1_Eye_Var_of f145_) noFns) Tryz.f100.ntmps plan100 (bodyOf Tryz.f100) (args0 0 [(.pointer e1 : Value)]) h (konF Tryz.f100 K) := by kernel_rfl
def E_ref8_eye_number_of (f : Y2) : List Value → Heap → YV → Prop
  | [v0], h, K => dec1 .ptr v0 fun (e1 : Option Addr) =>
  f e1 h (fun (r0 : Int) (h : Heap) => K (.int .u64 r0) h)
  | _, _, _ => False
abbrev E_ref8_eye_number := E_ref8_eye_number_of F_ref8_eye_number
theorem E_ref8_eye_number.right : IsRight Tryz.prog 100 E_ref8_eye_number := by
  refine isRight fun vs K w hh => ?_
  match vs, hh with
  | [v0], hh =>
    unfold E_ref8_eye_number E_ref8_eye_number_of at hh
    replace hh := dec1_sound hh; obtain ⟨e1, rfl, hh⟩ := hh
    unfold F_ref8_eye_number at hh
    exact calls_den (fn1_right ok145 E_ref1_Eye_Var.right noFns_right) plan100 _ w K Tryz.func100 (by kernel_rfl) (by kernel_rfl) (Eq.mp (F_ref8_eye_number.eq F_ref1_Eye_Var e1 w.heap K) hh)
theorem ok100 : okFn Tryz.prog 100 = true := by kernel_rfl
def F_ref8_eye_text_of (f146_ : Y11) (e1 : Option Addr) (h : Heap) (Q : Sl → Heap → Prop) : Prop :=
  nn e1 fun (a2 : Addr) =>
  ld [.ptr] (a2.add 0) h fun (v3 : Option Addr) =>
  nn e1 fun (a4 : Addr) =>
  ld [.int .i64] (a4.add 1) h fun (v5 : Int) =>
  f146_ v3 v5 h fun (r6 : Sl) (h7 : Heap) =>
  Q r6 h7
def F_ref8_eye_text (e1 : Option Addr) (h : Heap) (Q : Sl → Heap → Prop) : Prop := F_ref8_eye_text_of F_ref1_Eye_Text e1 h Q
def plan101 : Plan := .s (.r [0]) (.s (.d [0, 1, 3, 7, 0, 16, 48, 112, 255, 511] [[0, 1, 2, 3, 4, 5, 6, 7, 8, 9]] [2]) .z)
theorem F_ref8_eye_text.eq (f146_ : Y11) (e1 : Option Addr) (h : Heap) (K : YV) : F_ref8_eye_text_of f146_ e1 h (fun (r0 : Sl) (h : Heap) => K (.slice r0.ptr r0.len r0.cap) h) =
    den Tryz.prog (fn1 146 (E_ref1_Eye_Text_of f146_) noFns) Tryz.f101.ntmps plan101 (bodyOf Tryz.f101) (args0 0 [(.pointer e1 : Value)]) h (konF Tryz.f101 K) := by kernel_rfl
def E_ref8_eye_text_of (f : Y18) : List Value → Heap → YV → Prop
  | [v0], h, K => dec1 .ptr v0 fun (e1 : Option Addr) =>
  f e1 h (fun (r0 : Sl) (h : Heap) => K (.slice r0.ptr r0.len r0.cap) h)
  | _, _, _ => False
abbrev E_ref8_eye_text := E_ref8_eye_text_of F_ref8_eye_text
theorem E_ref8_eye_text.right : IsRight Tryz.prog 101 E_ref8_eye_text := by
  refine isRight fun vs K w hh => ?_
  match vs, hh with
  | [v0], hh =>
    unfold E_ref8_eye_text E_ref8_eye_text_of at hh
    replace hh := dec1_sound hh; obtain ⟨e1, rfl, hh⟩ := hh
    unfold F_ref8_eye_text at hh
    exact calls_den (fn1_right ok146 E_ref1_Eye_Text.right noFns_right) plan101 _ w K Tryz.func101 (by kernel_rfl) (by kernel_rfl) (Eq.mp (F_ref8_eye_text.eq F_ref1_Eye_Text e1 w.heap K) hh)
theorem ok101 : okFn Tryz.prog 101 = true := by kernel_rfl
def F_ref8_calls_of (f99_ f100_ : Y2) (f101_ : Y18) (e1 m2 : Option Addr) (h : Heap) (Q : Heap → Prop) : Prop :=
  nn m2 fun (a3 : Addr) =>
  ld [.int .i64] ((a3.add 0).add 0) h fun (v4 : Int) =>
  jn [] (fun  (h91 : Heap) =>
  Q h91) (fun (j5 : Heap → Prop) =>
  brr (v4 == 8)
  (f99_ e1 h fun (r6 : Int) (h7 : Heap) =>
  nn m2 fun (a8 : Addr) =>
  st (a8.add 11) [.int .i64 r6] h7 fun (h9 : Heap) =>
  f100_ e1 h9 fun (r10 : Int) (h11 : Heap) =>
  nn m2 fun (a12 : Addr) =>
  st (a12.add 12) [.int .u64 r10] h11 fun (h13 : Heap) =>
  f101_ e1 h13 fun (r14 : Sl) (h15 : Heap) =>
  b2s r14.ptr r14.len h15 fun (s16 : ByteArray) =>
  nn m2 fun (a17 : Addr) =>
  st (a17.add 13) [.string s16] h15 fun (h18 : Heap) =>
  f100_ e1 h18 fun (r19 : Int) (h20 : Heap) =>
  nn m2 fun (a21 : Addr) =>
  st (a21.add 15) [.int .u64 r19] h20 fun (h22 : Heap) =>
  j5 h22)
  (jn [] (fun  (h90 : Heap) =>
  j5 h90) (fun (j23 : Heap → Prop) =>
  brr (v4 == 9)
  (f99_ e1 h fun (r24 : Int) (h25 : Heap) =>
  nn m2 fun (a26 : Addr) =>
  st (a26.add 11) [.int .i64 r24] h25 fun (h27 : Heap) =>
  f100_ e1 h27 fun (r28 : Int) (h29 : Heap) =>
  nn m2 fun (a30 : Addr) =>
  st (a30.add 12) [.int .u64 r28] h29 fun (h31 : Heap) =>
  j23 h31)
  (jn [] (fun  (h89 : Heap) =>
  j23 h89) (fun (j32 : Heap → Prop) =>
  brr (v4 == 10)
  (f100_ e1 h fun (r33 : Int) (h34 : Heap) =>
  nn m2 fun (a35 : Addr) =>
  st (a35.add 12) [.int .u64 r33] h34 fun (h36 : Heap) =>
  f101_ e1 h36 fun (r37 : Sl) (h38 : Heap) =>
  b2s r37.ptr r37.len h38 fun (s39 : ByteArray) =>
  nn m2 fun (a40 : Addr) =>
  st (a40.add 13) [.string s39] h38 fun (h41 : Heap) =>
  f101_ e1 h41 fun (r42 : Sl) (h43 : Heap) =>
  b2s r42.ptr r42.len h43 fun (s44 : ByteArray) =>
  nn m2 fun (a45 : Addr) =>
  st (a45.add 14) [.string s44] h43 fun (h46 : Heap) =>
  f100_ e1 h46 fun (r47 : Int) (h48 : Heap) =>
  nn m2 fun (a49 : Addr) =>
  st (a49.add 15) [.int .u64 r47] h48 fun (h50 : Heap) =>
  f100_ e1 h50 fun (r51 : Int) (h52 : Heap) =>
  nn m2 fun (a53 : Addr) =>
  st ((a53.add 16).add 0) [.int .u64 r51] h52 fun (h54 : Heap) =>
  f100_ e1 h54 fun (r55 : Int) (h56 : Heap) =>
  nn m2 fun (a57 : Addr) =>
  st ((a57.add 16).add 1) [.int .u64 r55] h56 fun (h58 : Heap) =>
  f99_ e1 h58 fun (r59 : Int) (h60 : Heap) =>
  nn m2 fun (a61 : Addr) =>
  st (a61.add 18) [.int .i64 r59] h60 fun (h62 : Heap) =>
  f99_ e1 h62 fun (r63 : Int) (h64 : Heap) =>
  nn m2 fun (a65 : Addr) =>
  st (a65.add 19) [.int .i64 r63] h64 fun (h66 : Heap) =>
  j32 h66)
  (jn [] (fun  (h88 : Heap) =>
  j32 h88) (fun (j67 : Heap → Prop) =>
  brr (v4 == 11)
  (f100_ e1 h fun (r68 : Int) (h69 : Heap) =>
  nn m2 fun (a70 : Addr) =>
  st (a70.add 15) [.int .u64 r68] h69 fun (h71 : Heap) =>
  f100_ e1 h71 fun (r72 : Int) (h73 : Heap) =>
  nn m2 fun (a74 : Addr) =>
  st ((a74.add 16).add 0) [.int .u64 r72] h73 fun (h75 : Heap) =>
  f100_ e1 h75 fun (r76 : Int) (h77 : Heap) =>
  nn m2 fun (a78 : Addr) =>
  st ((a78.add 16).add 1) [.int .u64 r76] h77 fun (h79 : Heap) =>
  f99_ e1 h79 fun (r80 : Int) (h81 : Heap) =>
  nn m2 fun (a82 : Addr) =>
  st (a82.add 20) [.int .i64 r80] h81 fun (h83 : Heap) =>
  f100_ e1 h83 fun (r84 : Int) (h85 : Heap) =>
  nn m2 fun (a86 : Addr) =>
  st (a86.add 21) [.int .i64 (IntKind.i64.wrap r84)] h85 fun (h87 : Heap) =>
  j67 h87)
  (j67 h))))))))
def F_ref8_calls (e1 m2 : Option Addr) (h : Heap) (Q : Heap → Prop) : Prop := F_ref8_calls_of F_ref8_eye_small F_ref8_eye_number F_ref8_eye_text e1 m2 h Q
def plan102 : Plan := .s (.r [0, 1, 8]) (.b (.s (.r [0, 1, 8, 9]) (.cj [] [] (.s (.r [0, 1]) (.s (.r [0, 1]) (.s (.r [0, 1]) (.r [])))) (.s (.r [0, 1, 8, 32]) (.cj [] [] (.s (.r [0, 1]) (.r [])) (.s (.r [0, 1, 8, 44]) (.cj [] [] (.s (.r [0, 1]) (.s (.r [0, 1]) (.s (.r [0, 1]) (.s (.r [0, 1]) (.s (.r [0, 1]) (.s (.r [0, 1]) (.s (.r [0, 1]) (.r [])))))))) (.s (.r [0, 1, 90]) (.cj [] [] (.s (.r [0, 1]) (.s (.r [0, 1]) (.s (.r [0, 1]) (.s (.r [0, 1]) (.r []))))) .z)))))))))
theorem F_ref8_calls.eq (f99_ f100_ : Y2) (f101_ : Y18) (e1 m2 : Option Addr) (h : Heap) (K : YV) : F_ref8_calls_of f99_ f100_ f101_ e1 m2 h (fun  (h : Heap) => K (.tuple #[]) h) =
    den Tryz.prog (fn1 99 (E_ref8_eye_small_of f99_) (fn1 100 (E_ref8_eye_number_of f100_) (fn1 101 (E_ref8_eye_text_of f101_) noFns))) Tryz.f102.ntmps plan102 (bodyOf Tryz.f102) (args0 0 [(.pointer e1 : Value), (.pointer m2 : Value)]) h (konF Tryz.f102 K) := by kernel_rfl
def E_ref8_calls_of (f : Y4) : List Value → Heap → YV → Prop
  | [v0, v1], h, K => dec1 .ptr v0 fun (e1 : Option Addr) =>
  dec1 .ptr v1 fun (m2 : Option Addr) =>
  f e1 m2 h (fun  (h : Heap) => K (.tuple #[]) h)
  | _, _, _ => False
abbrev E_ref8_calls := E_ref8_calls_of F_ref8_calls
theorem E_ref8_calls.right : IsRight Tryz.prog 102 E_ref8_calls := by
  refine isRight fun vs K w hh => ?_
  match vs, hh with
  | [v0, v1], hh =>
    unfold E_ref8_calls E_ref8_calls_of at hh
    replace hh := dec1_sound hh; obtain ⟨e1, rfl, hh⟩ := hh
    replace hh := dec1_sound hh; obtain ⟨m2, rfl, hh⟩ := hh
    unfold F_ref8_calls at hh
    exact calls_den (fn1_right ok99 E_ref8_eye_small.right (fn1_right ok100 E_ref8_eye_number.right (fn1_right ok101 E_ref8_eye_text.right noFns_right))) plan102 _ w K Tryz.func102 (by kernel_rfl) (by kernel_rfl) (Eq.mp (F_ref8_calls.eq F_ref8_eye_small F_ref8_eye_number F_ref8_eye_text e1 m2 w.heap K) hh)
theorem ok102 : okFn Tryz.prog 102 = true := by kernel_rfl
def F_ref8_look_of (f99_ f100_ : Y2) (f101_ : Y18) (f102_ : Y4) (b1 : Sl) (h : Heap) (Q : YQ) : Prop :=
  al 52 [.int .i64 0, .int .i64 0, .int .i64 0, .int .i64 0, .int .u64 0, .int .u64 0, .int .u64 0, .int .u64 0, .int .i64 0, .int .u64 0, .slice none 0 0, .int .i64 0, .int .u64 0, .string (⟨#[]⟩ : ByteArray), .string (⟨#[]⟩ : ByteArray), .int .u64 0, .int .u64 0, .int .u64 0, .int .i64 0, .int .i64 0, .int .i64 0, .int .i64 0] h fun (a2 : Addr) (h3 : Heap) =>
  al 143 [.slice b1.ptr b1.len b1.cap, .int .i64 0, .int .i64 0] h3 fun (a4 : Addr) (h5 : Heap) =>
  al 145 [.pointer (some a4), .int .i64 ((b1.len : Nat) : Int)] h5 fun (a6 : Addr) (h7 : Heap) =>
  al 52 [.int .i64 0, .int .i64 0, .int .i64 0, .int .i64 0, .int .u64 0, .int .u64 0, .int .u64 0, .int .u64 0, .int .i64 0, .int .u64 0, .slice none 0 0, .int .i64 0, .int .u64 0, .string (⟨#[]⟩ : ByteArray), .string (⟨#[]⟩ : ByteArray), .int .u64 0, .int .u64 0, .int .u64 0, .int .i64 0, .int .i64 0, .int .i64 0, .int .i64 0] h7 fun (a8 : Addr) (h9 : Heap) =>
  f99_ (some a6) h9 fun (r10 : Int) (h11 : Heap) =>
  st ((a8.add 0).add 0) [.int .i64 r10] h11 fun (h12 : Heap) =>
  f99_ (some a6) h12 fun (r13 : Int) (h14 : Heap) =>
  st ((a8.add 0).add 1) [.int .i64 r13] h14 fun (h15 : Heap) =>
  f99_ (some a6) h15 fun (r16 : Int) (h17 : Heap) =>
  st ((a8.add 0).add 2) [.int .i64 r16] h17 fun (h18 : Heap) =>
  f99_ (some a6) h18 fun (r19 : Int) (h20 : Heap) =>
  st ((a8.add 0).add 3) [.int .i64 r19] h20 fun (h21 : Heap) =>
  ld [.int .i64] ((a8.add 0).add 0) h21 fun (v22 : Int) =>
  jn [] (fun  (h91 : Heap) =>
  ld K22 a8 h91 fun (v92 v93 v94 v95 v96 v97 v98 v99 v100 v101 : Int) (v102 : Sl) (v103 v104 : Int) (v105 v106 : ByteArray) (v107 v108 v109 v110 v111 v112 v113 : Int) =>
  st a2 [.int .i64 v92, .int .i64 v93, .int .i64 v94, .int .i64 v95, .int .u64 v96, .int .u64 v97, .int .u64 v98, .int .u64 v99, .int .i64 v100, .int .u64 v101, .slice v102.ptr v102.len v102.cap, .int .i64 v103, .int .u64 v104, .string v105, .string v106, .int .u64 v107, .int .u64 v108, .int .u64 v109, .int .i64 v110, .int .i64 v111, .int .i64 v112, .int .i64 v113] h91 fun (h114 : Heap) =>
  ld K22 a2 h114 fun (v115 v116 v117 v118 v119 v120 v121 v122 v123 v124 : Int) (v125 : Sl) (v126 v127 : Int) (v128 v129 : ByteArray) (v130 v131 v132 v133 v134 v135 v136 : Int) =>
  Q v115 v116 v117 v118 v119 v120 v121 v122 v123 v124 v125 v126 v127 v128 v129 v130 v131 v132 v133 v134 v135 v136 h114) (fun (j23 : Heap → Prop) =>
  brr (v22 == 1)
  (f100_ (some a6) h21 fun (r24 : Int) (h25 : Heap) =>
  st (a8.add 4) [.int .u64 r24] h25 fun (h26 : Heap) =>
  j23 h26)
  (jn [] (fun  (h90 : Heap) =>
  j23 h90) (fun (j27 : Heap → Prop) =>
  brr (v22 == 2)
  (f100_ (some a6) h21 fun (r28 : Int) (h29 : Heap) =>
  st (a8.add 4) [.int .u64 r28] h29 fun (h30 : Heap) =>
  f100_ (some a6) h30 fun (r31 : Int) (h32 : Heap) =>
  st ((a8.add 5).add 0) [.int .u64 r31] h32 fun (h33 : Heap) =>
  f100_ (some a6) h33 fun (r34 : Int) (h35 : Heap) =>
  st ((a8.add 5).add 1) [.int .u64 r34] h35 fun (h36 : Heap) =>
  f101_ (some a6) h36 fun (r37 : Sl) (h38 : Heap) =>
  st (a8.add 10) [.slice r37.ptr r37.len r37.cap] h38 fun (h39 : Heap) =>
  j27 h39)
  (jn [] (fun  (h89 : Heap) =>
  j27 h89) (fun (j40 : Heap → Prop) =>
  brr (v22 == 3)
  (f100_ (some a6) h21 fun (r41 : Int) (h42 : Heap) =>
  st (a8.add 4) [.int .u64 r41] h42 fun (h43 : Heap) =>
  f100_ (some a6) h43 fun (r44 : Int) (h45 : Heap) =>
  st (a8.add 9) [.int .u64 r44] h45 fun (h46 : Heap) =>
  j40 h46)
  (jn [] (fun  (h88 : Heap) =>
  j40 h88) (fun (j47 : Heap → Prop) =>
  brr (v22 == 4)
  (f100_ (some a6) h21 fun (r48 : Int) (h49 : Heap) =>
  st ((a8.add 5).add 0) [.int .u64 r48] h49 fun (h50 : Heap) =>
  f100_ (some a6) h50 fun (r51 : Int) (h52 : Heap) =>
  st ((a8.add 5).add 1) [.int .u64 r51] h52 fun (h53 : Heap) =>
  f100_ (some a6) h53 fun (r54 : Int) (h55 : Heap) =>
  st (a8.add 8) [.int .i64 (IntKind.i64.wrap r54)] h55 fun (h56 : Heap) =>
  f101_ (some a6) h56 fun (r57 : Sl) (h58 : Heap) =>
  st (a8.add 10) [.slice r57.ptr r57.len r57.cap] h58 fun (h59 : Heap) =>
  j47 h59)
  (jn [] (fun  (h87 : Heap) =>
  j47 h87) (fun (j60 : Heap → Prop) =>
  brr (v22 == 5)
  (f100_ (some a6) h21 fun (r61 : Int) (h62 : Heap) =>
  st ((a8.add 5).add 0) [.int .u64 r61] h62 fun (h63 : Heap) =>
  f100_ (some a6) h63 fun (r64 : Int) (h65 : Heap) =>
  st ((a8.add 5).add 1) [.int .u64 r64] h65 fun (h66 : Heap) =>
  j60 h66)
  (jn [] (fun  (h86 : Heap) =>
  j60 h86) (fun (j67 : Heap → Prop) =>
  brr (v22 == 6)
  (f100_ (some a6) h21 fun (r68 : Int) (h69 : Heap) =>
  st (a8.add 4) [.int .u64 r68] h69 fun (h70 : Heap) =>
  f100_ (some a6) h70 fun (r71 : Int) (h72 : Heap) =>
  st (a8.add 7) [.int .u64 r71] h72 fun (h73 : Heap) =>
  f100_ (some a6) h73 fun (r74 : Int) (h75 : Heap) =>
  st (a8.add 8) [.int .i64 (IntKind.i64.wrap r74)] h75 fun (h76 : Heap) =>
  j67 h76)
  (jn [] (fun  (h85 : Heap) =>
  j67 h85) (fun (j77 : Heap → Prop) =>
  brr (v22 == 7)
  (f100_ (some a6) h21 fun (r78 : Int) (h79 : Heap) =>
  st (a8.add 4) [.int .u64 r78] h79 fun (h80 : Heap) =>
  f100_ (some a6) h80 fun (r81 : Int) (h82 : Heap) =>
  st (a8.add 7) [.int .u64 r81] h82 fun (h83 : Heap) =>
  j77 h83)
  (f102_ (some a6) (some a8) h21 fun  (h84 : Heap) =>
  j77 h84))))))))))))))
def F_ref8_look (b1 : Sl) (h : Heap) (Q : YQ) : Prop := F_ref8_look_of F_ref8_eye_small F_ref8_eye_number F_ref8_eye_text F_ref8_calls b1 h Q
def plan46 : Plan := .s (.r [0, 2]) (.s (.r [2, 3]) (.s (.r [2, 3, 4]) (.s (.r [2, 3, 4]) (.s (.r [2, 3, 4]) (.s (.r [2, 3, 4]) (.s (.r [2, 3, 4]) (.s (.s (.r [2, 3, 4, 30]) (.b (.s (.r [2, 3, 4, 30, 33]) (.cj [] [2, 4] (.r [2, 4]) (.s (.r [2, 3, 4, 30, 38]) (.cj [] [2, 4] (.s (.r [2, 3, 4]) (.s (.r [2, 3, 4]) (.s (.r [2, 3, 4]) (.r [2, 4])))) (.s (.r [2, 3, 4, 30, 54]) (.cj [] [2, 4] (.s (.r [2, 3, 4]) (.r [2, 4])) (.s (.r [2, 3, 4, 30, 62]) (.cj [] [2, 4] (.s (.r [2, 3, 4]) (.s (.r [2, 3, 4]) (.s (.r [2, 3, 4]) (.r [2, 4])))) (.s (.r [2, 3, 4, 30, 79]) (.cj [] [2, 4] (.s (.r [2, 3, 4]) (.r [2, 4])) (.s (.r [2, 3, 4, 30, 89]) (.cj [] [2, 4] (.s (.r [2, 3, 4]) (.s (.r [2, 3, 4]) (.r [2, 4]))) (.s (.r [2, 3, 4, 101]) (.cj [] [2, 4] (.s (.r [2, 3, 4]) (.r [2, 4])) (.r [2, 4]))))))))))))))))) (.s (.r [2]) .z))))))))
theorem F_ref8_look.eq (f99_ f100_ : Y2) (f101_ : Y18) (f102_ : Y4) (b1 : Sl) (h : Heap) (K : YV) : F_ref8_look_of f99_ f100_ f101_ f102_ b1 h (fun (r0 r1 r2 r3 r4 r5 r6 r7 r8 r9 : Int) (r10 : Sl) (r11 r12 : Int) (r13 r14 : ByteArray) (r15 r16 r17 r18 r19 r20 r21 : Int) (h : Heap) => K (.agg #[.int .i64 r0, .int .i64 r1, .int .i64 r2, .int .i64 r3, .int .u64 r4, .int .u64 r5, .int .u64 r6, .int .u64 r7, .int .i64 r8, .int .u64 r9, .slice r10.ptr r10.len r10.cap, .int .i64 r11, .int .u64 r12, .string r13, .string r14, .int .u64 r15, .int .u64 r16, .int .u64 r17, .int .i64 r18, .int .i64 r19, .int .i64 r20, .int .i64 r21]) h) =
    den Tryz.prog (fn1 99 (E_ref8_eye_small_of f99_) (fn1 100 (E_ref8_eye_number_of f100_) (fn1 101 (E_ref8_eye_text_of f101_) (fn1 102 (E_ref8_calls_of f102_) noFns)))) Tryz.f46.ntmps plan46 (bodyOf Tryz.f46) (args0 0 [(.slice b1.ptr b1.len b1.cap : Value)]) h (konF Tryz.f46 K) := by kernel_rfl
def E_ref8_look_of (f : Y37) : List Value → Heap → YV → Prop
  | [v0], h, K => dec1 .sl v0 fun (b1 : Sl) =>
  f b1 h (fun (r0 r1 r2 r3 r4 r5 r6 r7 r8 r9 : Int) (r10 : Sl) (r11 r12 : Int) (r13 r14 : ByteArray) (r15 r16 r17 r18 r19 r20 r21 : Int) (h : Heap) => K (.agg #[.int .i64 r0, .int .i64 r1, .int .i64 r2, .int .i64 r3, .int .u64 r4, .int .u64 r5, .int .u64 r6, .int .u64 r7, .int .i64 r8, .int .u64 r9, .slice r10.ptr r10.len r10.cap, .int .i64 r11, .int .u64 r12, .string r13, .string r14, .int .u64 r15, .int .u64 r16, .int .u64 r17, .int .i64 r18, .int .i64 r19, .int .i64 r20, .int .i64 r21]) h)
  | _, _, _ => False
abbrev E_ref8_look := E_ref8_look_of F_ref8_look
theorem E_ref8_look.right : IsRight Tryz.prog 46 E_ref8_look := by
  refine isRight fun vs K w hh => ?_
  match vs, hh with
  | [v0], hh =>
    unfold E_ref8_look E_ref8_look_of at hh
    replace hh := dec1_sound hh; obtain ⟨b1, rfl, hh⟩ := hh
    unfold F_ref8_look at hh
    exact calls_den (fn1_right ok99 E_ref8_eye_small.right (fn1_right ok100 E_ref8_eye_number.right (fn1_right ok101 E_ref8_eye_text.right (fn1_right ok102 E_ref8_calls.right noFns_right)))) plan46 _ w K Tryz.func46 (by kernel_rfl) (by kernel_rfl) (Eq.mp (F_ref8_look.eq F_ref8_eye_small F_ref8_eye_number F_ref8_eye_text F_ref8_calls b1 w.heap K) hh)
theorem ok46 : okFn Tryz.prog 46 = true := by kernel_rfl
def F_ref8_Decode_of (f10_ : Y21) (f12_ : Y22) (f28_ : Y7) (f46_ : Y37) (b1 : Sl) (h : Heap) (Q : Int → Int → Int → Int → Int → Int → Int → Int → Int → Int → Sl → Int → Int → ByteArray → ByteArray → Int → Int → Int → Int → Int → Int → Int → Int → Heap → Prop) : Prop :=
  al 52 [.int .i64 0, .int .i64 0, .int .i64 0, .int .i64 0, .int .u64 0, .int .u64 0, .int .u64 0, .int .u64 0, .int .i64 0, .int .u64 0, .slice none 0 0, .int .i64 0, .int .u64 0, .string (⟨#[]⟩ : ByteArray), .string (⟨#[]⟩ : ByteArray), .int .u64 0, .int .u64 0, .int .u64 0, .int .i64 0, .int .i64 0, .int .i64 0, .int .i64 0] h fun (a2 : Addr) (h3 : Heap) =>
  jn [(14, .one .bool)] (fun (x5 : Bool) (h6 : Heap) =>
  brr x5
  (st a2 [.int .i64 0, .int .i64 0, .int .i64 0, .int .i64 0, .int .u64 0, .int .u64 0, .int .u64 0, .int .u64 0, .int .i64 0, .int .u64 0, .slice none 0 0, .int .i64 0, .int .u64 0, .string (⟨#[]⟩ : ByteArray), .string (⟨#[]⟩ : ByteArray), .int .u64 0, .int .u64 0, .int .u64 0, .int .i64 0, .int .i64 0, .int .i64 0, .int .i64 0] h6 fun (h7 : Heap) =>
  ld K22 a2 h7 fun (v8 v9 v10 v11 v12 v13 v14 v15 v16 v17 : Int) (v18 : Sl) (v19 v20 : Int) (v21 v22 : ByteArray) (v23 v24 v25 v26 v27 v28 v29 : Int) =>
  Q v8 v9 v10 v11 v12 v13 v14 v15 v16 v17 v18 v19 v20 v21 v22 v23 v24 v25 v26 v27 v28 v29 81 h7)
  (slTo b1 (IntKind.i64.wrap (((b1.len : Nat) : Int) - 4)) fun (s30 : Sl) =>
  f28_ s30 h6 fun (r31 : Sl) (h32 : Heap) =>
  f12_ r31 b1 h32 fun (r33 : Bool) (h34 : Heap) =>
  brr (!r33)
  (st a2 [.int .i64 0, .int .i64 0, .int .i64 0, .int .i64 0, .int .u64 0, .int .u64 0, .int .u64 0, .int .u64 0, .int .i64 0, .int .u64 0, .slice none 0 0, .int .i64 0, .int .u64 0, .string (⟨#[]⟩ : ByteArray), .string (⟨#[]⟩ : ByteArray), .int .u64 0, .int .u64 0, .int .u64 0, .int .i64 0, .int .i64 0, .int .i64 0, .int .i64 0] h34 fun (h35 : Heap) =>
  ld K22 a2 h35 fun (v36 v37 v38 v39 v40 v41 v42 v43 v44 v45 : Int) (v46 : Sl) (v47 v48 : Int) (v49 v50 : ByteArray) (v51 v52 v53 v54 v55 v56 v57 : Int) =>
  Q v36 v37 v38 v39 v40 v41 v42 v43 v44 v45 v46 v47 v48 v49 v50 v51 v52 v53 v54 v55 v56 v57 82 h35)
  (slTo b1 (IntKind.i64.wrap (((b1.len : Nat) : Int) - 4)) fun (s58 : Sl) =>
  f46_ s58 h34 fun (r59 r60 r61 r62 r63 r64 r65 r66 r67 r68 : Int) (r69 : Sl) (r70 r71 : Int) (r72 r73 : ByteArray) (r74 r75 r76 r77 r78 r79 r80 : Int) (h81 : Heap) =>
  al 52 [.int .i64 0, .int .i64 0, .int .i64 0, .int .i64 0, .int .u64 0, .int .u64 0, .int .u64 0, .int .u64 0, .int .i64 0, .int .u64 0, .slice none 0 0, .int .i64 0, .int .u64 0, .string (⟨#[]⟩ : ByteArray), .string (⟨#[]⟩ : ByteArray), .int .u64 0, .int .u64 0, .int .u64 0, .int .i64 0, .int .i64 0, .int .i64 0, .int .i64 0] h81 fun (a82 : Addr) (h83 : Heap) =>
  st a82 [.int .i64 r59, .int .i64 r60, .int .i64 r61, .int .i64 r62, .int .u64 r63, .int .u64 r64, .int .u64 r65, .int .u64 r66, .int .i64 r67, .int .u64 r68, .slice r69.ptr r69.len r69.cap, .int .i64 r70, .int .u64 r71, .string r72, .string r73, .int .u64 r74, .int .u64 r75, .int .u64 r76, .int .i64 r77, .int .i64 r78, .int .i64 r79, .int .i64 r80] h83 fun (h84 : Heap) =>
  ld K22 a82 h84 fun (v85 v86 v87 v88 v89 v90 v91 v92 v93 v94 : Int) (v95 : Sl) (v96 v97 : Int) (v98 v99 : ByteArray) (v100 v101 v102 v103 v104 v105 v106 : Int) =>
  f10_ v85 v86 v87 v88 v89 v90 v91 v92 v93 v94 v95 v96 v97 v98 v99 v100 v101 v102 v103 v104 v105 v106 h84 fun (r107 : Sl) (r108 : Int) (h109 : Heap) =>
  jn [(44, .one .bool)] (fun (x113 : Bool) (h114 : Heap) =>
  brr x113
  (st a2 [.int .i64 0, .int .i64 0, .int .i64 0, .int .i64 0, .int .u64 0, .int .u64 0, .int .u64 0, .int .u64 0, .int .i64 0, .int .u64 0, .slice none 0 0, .int .i64 0, .int .u64 0, .string (⟨#[]⟩ : ByteArray), .string (⟨#[]⟩ : ByteArray), .int .u64 0, .int .u64 0, .int .u64 0, .int .i64 0, .int .i64 0, .int .i64 0, .int .i64 0] h114 fun (h115 : Heap) =>
  ld K22 a2 h115 fun (v116 v117 v118 v119 v120 v121 v122 v123 v124 v125 : Int) (v126 : Sl) (v127 v128 : Int) (v129 v130 : ByteArray) (v131 v132 v133 v134 v135 v136 v137 : Int) =>
  Q v116 v117 v118 v119 v120 v121 v122 v123 v124 v125 v126 v127 v128 v129 v130 v131 v132 v133 v134 v135 v136 v137 81 h115)
  (ld K22 a82 h114 fun (v138 v139 v140 v141 v142 v143 v144 v145 v146 v147 : Int) (v148 : Sl) (v149 v150 : Int) (v151 v152 : ByteArray) (v153 v154 v155 v156 v157 v158 v159 : Int) =>
  st a2 [.int .i64 v138, .int .i64 v139, .int .i64 v140, .int .i64 v141, .int .u64 v142, .int .u64 v143, .int .u64 v144, .int .u64 v145, .int .i64 v146, .int .u64 v147, .slice v148.ptr v148.len v148.cap, .int .i64 v149, .int .u64 v150, .string v151, .string v152, .int .u64 v153, .int .u64 v154, .int .u64 v155, .int .i64 v156, .int .i64 v157, .int .i64 v158, .int .i64 v159] h114 fun (h160 : Heap) =>
  ld K22 a2 h160 fun (v161 v162 v163 v164 v165 v166 v167 v168 v169 v170 : Int) (v171 : Sl) (v172 v173 : Int) (v174 v175 : ByteArray) (v176 v177 v178 v179 v180 v181 v182 : Int) =>
  Q v161 v162 v163 v164 v165 v166 v167 v168 v169 v170 v171 v172 v173 v174 v175 v176 v177 v178 v179 v180 v181 v182 0 h160)) (fun (j110 : Bool → Heap → Prop) =>
  brr (r108 != 0)
  (j110 true h109)
  (f12_ r107 b1 h109 fun (r111 : Bool) (h112 : Heap) =>
  j110 (!r111) h112))))) (fun (j4 : Bool → Heap → Prop) =>
  brr (decide (((b1.len : Nat) : Int) < 4))
  (j4 true h3)
  (j4 (decide (((b1.len : Nat) : Int) > 17000)) h3))
def F_ref8_Decode (b1 : Sl) (h : Heap) (Q : Int → Int → Int → Int → Int → Int → Int → Int → Int → Int → Sl → Int → Int → ByteArray → ByteArray → Int → Int → Int → Int → Int → Int → Int → Int → Heap → Prop) : Prop := F_ref8_Decode_of F_ref8_Encode F_ref0_Eq F_ref8_Seal F_ref8_look b1 h Q
def plan17 : Plan := .s (.r [0, 2]) (.s (.s (.rj [(14, .one .bool)] [0, 2]) (.c (.s (.r [2, 3]) .z) .z)) (.s (.s (.r [0, 2, 24]) (.c (.s (.r [2, 3]) .z) .z)) (.s (.r [0, 2, 4]) (.s (.r [0, 2, 4, 5, 6]) (.s (.s (.rj [(44, .one .bool)] [2, 4]) (.c (.s (.r [2, 3]) .z) .z)) (.s (.r [2, 3]) .z))))))
theorem F_ref8_Decode.eq (f10_ : Y21) (f12_ : Y22) (f28_ : Y7) (f46_ : Y37) (b1 : Sl) (h : Heap) (K : YV) : F_ref8_Decode_of f10_ f12_ f28_ f46_ b1 h (fun (r0 r1 r2 r3 r4 r5 r6 r7 r8 r9 : Int) (r10 : Sl) (r11 r12 : Int) (r13 r14 : ByteArray) (r15 r16 r17 r18 r19 r20 r21 r22 : Int) (h : Heap) => K (.tuple #[.agg #[.int .i64 r0, .int .i64 r1, .int .i64 r2, .int .i64 r3, .int .u64 r4, .int .u64 r5, .int .u64 r6, .int .u64 r7, .int .i64 r8, .int .u64 r9, .slice r10.ptr r10.len r10.cap, .int .i64 r11, .int .u64 r12, .string r13, .string r14, .int .u64 r15, .int .u64 r16, .int .u64 r17, .int .i64 r18, .int .i64 r19, .int .i64 r20, .int .i64 r21], .int .i64 r22]) h) =
    den Tryz.prog (fn1 10 (E_ref8_Encode_of f10_) (fn1 12 (E_ref0_Eq_of f12_) (fn1 28 (E_ref8_Seal_of f28_) (fn1 46 (E_ref8_look_of f46_) noFns)))) Tryz.f17.ntmps plan17 (bodyOf Tryz.f17) (args0 0 [(.slice b1.ptr b1.len b1.cap : Value)]) h (konF Tryz.f17 K) := by kernel_rfl
def E_ref8_Decode_of (f : Y17) : List Value → Heap → YV → Prop
  | [v0], h, K => dec1 .sl v0 fun (b1 : Sl) =>
  f b1 h (fun (r0 r1 r2 r3 r4 r5 r6 r7 r8 r9 : Int) (r10 : Sl) (r11 r12 : Int) (r13 r14 : ByteArray) (r15 r16 r17 r18 r19 r20 r21 r22 : Int) (h : Heap) => K (.tuple #[.agg #[.int .i64 r0, .int .i64 r1, .int .i64 r2, .int .i64 r3, .int .u64 r4, .int .u64 r5, .int .u64 r6, .int .u64 r7, .int .i64 r8, .int .u64 r9, .slice r10.ptr r10.len r10.cap, .int .i64 r11, .int .u64 r12, .string r13, .string r14, .int .u64 r15, .int .u64 r16, .int .u64 r17, .int .i64 r18, .int .i64 r19, .int .i64 r20, .int .i64 r21], .int .i64 r22]) h)
  | _, _, _ => False
abbrev E_ref8_Decode := E_ref8_Decode_of F_ref8_Decode
theorem E_ref8_Decode.right : IsRight Tryz.prog 17 E_ref8_Decode := by
  refine isRight fun vs K w hh => ?_
  match vs, hh with
  | [v0], hh =>
    unfold E_ref8_Decode E_ref8_Decode_of at hh
    replace hh := dec1_sound hh; obtain ⟨b1, rfl, hh⟩ := hh
    unfold F_ref8_Decode at hh
    exact calls_den (fn1_right ok10 E_ref8_Encode.right (fn1_right ok12 E_ref0_Eq.right (fn1_right ok28 E_ref8_Seal.right (fn1_right ok46 E_ref8_look.right noFns_right)))) plan17 _ w K Tryz.func17 (by kernel_rfl) (by kernel_rfl) (Eq.mp (F_ref8_Decode.eq F_ref8_Encode F_ref0_Eq F_ref8_Seal F_ref8_look b1 w.heap K) hh)
theorem ok17 : okFn Tryz.prog 17 = true := by kernel_rfl
end Go.Proofs.YthiginhigfieiaaGreatDoor.V
/- The document's Decode. -/
namespace Go.Proofs.YthiginhigfieiaaGreatDoor.V
open Go Go.RowKit
set_option linter.unusedVariables false
set_option linter.unusedSimpArgs false
section
variable {h0 h : Heap} {L : List Res} {p q b n : Nat} {s : Sl} {x : RS} {y : RS × Mg} {bs : List UInt8}
def eyeC (p n : Nat) : List Value := [.pointer (some (pt p 0)), .int .i64 (n : Int)]
theorem F_ref8_eye_number.is {Q : Int → Heap → Prop} (o : x.Ok) (E : Eyes h0 L s x.b) (O : Sat h0 h (own q (eyeC p n) :: own p (eyC s x) :: L)) (k : ∀ h', Sat h0 h' (own q (eyeC p n) :: own p (eyC s (x.varP 18446744073709551615).1) :: L) → Q (((x.varP 18446744073709551615).2 : Nat) : Int) h') : F_ref8_eye_number (some (pt q 0)) h Q := by
  rw [F_ref8_eye_number.eq_1, F_ref8_eye_number_of.eq_1]
  simp only [nn_some, pt_add, Nat.zero_add, Nat.add_zero, Nat.reduceAdd, Nat.reduceMul, Int.toNat_zero, Int.toNat_one, Nat.zero_mul, Nat.one_mul]
  refine O.ld 0 rfl (ldL_c (ldL_n ?_))
  exact F_ref1_Eye_Var.is (most := 18446744073709551615) o E.drop O.swap fun h O => k h O.swap
theorem F_ref8_eye_small.is {Q : Int → Heap → Prop} (o : x.Ok) (E : Eyes h0 L s x.b) (O : Sat h0 h (own q (eyeC p n) :: own p (eyC s x) :: L)) (k : ∀ h', Sat h0 h' (own q (eyeC p n) :: own p (eyC s (x.next 1)) :: L) → Q ((beN (x.nextB 1) : Nat) : Int) h') : F_ref8_eye_small (some (pt q 0)) h Q := by
  rw [F_ref8_eye_small.eq_1, F_ref8_eye_small_of.eq_1]
  simp only [nn_some, pt_add, Nat.zero_add, Nat.add_zero, Nat.reduceAdd, Nat.reduceMul, Int.toNat_zero, Int.toNat_one, Nat.zero_mul, Nat.one_mul]
  refine O.ld 0 rfl (ldL_c (ldL_n ?_))
  refine F_ref1_Eye_U8.is o E.drop O.swap fun h O => ?_
  have hb := beN_lt (x.nextB 1)
  have hb1 : 256 ^ (x.nextB 1).length ≤ 256 ^ 1 := Nat.pow_le_pow_right (by decide) (nextB_len x 1)
  rw [wrap64 (by omega) (by omega)]
  exact k h O.swap
theorem F_ref8_eye_text.is {Q : Sl → Heap → Prop} (o : x.Ok) (hn : n ≤ 9223372036854775807) (E : Eyes h0 L s x.b) (O : Sat h0 h (own q (eyeC p n) :: own p (eyC s x) :: L)) (k : ∀ t h', Sat h0 h' (buf 1 u8 t (x.bytesP n).2 :: own q (eyeC p n) :: own p (eyC s (x.bytesP n).1) :: L) → Q t h') : F_ref8_eye_text (some (pt q 0)) h Q := by
  rw [F_ref8_eye_text.eq_1, F_ref8_eye_text_of.eq_1]
  simp only [nn_some, pt_add, Nat.zero_add, Nat.add_zero, Nat.reduceAdd, Nat.reduceMul, Int.toNat_zero, Int.toNat_one, Nat.zero_mul, Nat.one_mul]
  refine O.ld 0 rfl (ldL_c (ldL_n ?_))
  refine O.ld 0 rfl (ldL_c (ldL_n ?_))
  refine F_ref1_Eye_Text.is (most := (n : Int)) o E.drop (by omega) O.swap fun t h O => ?_
  have O := O.sel [0, 2, 1] 3 rfl (Nat.le_add_left _ _)
  simp only [selT, List.map, nth, List.drop, List.cons_append, List.nil_append] at O
  exact k t h O
def EyOk (y : RS × Mg) (bs : List UInt8) : Prop := y.1.Ok ∧ y.1.b = bs
theorem EyOk.one {lim : Nat → Nat} {P : Nat} (o : EyOk y bs) : EyOk (rdP1 lim y P) bs := by
  have h := one_ok (lim := lim) (p := P) o.1
  exact ⟨h.1, h.2.trans o.2⟩
theorem EyOk.eyes (o : EyOk y bs) (E : Eyes h0 L s bs) : Eyes h0 L s y.1.b := by rw [o.2]; exact E
theorem step_u {P : Nat} {K : Heap → Prop} (hp : P < 18) (hc : pc P = 0) (o : EyOk y bs) (E : Eyes h0 L s bs) (O : Sat h0 h (own q (eyeC p n) :: own p (eyC s y.1) :: mdR b y.2 :: L)) (k : ∀ h', Sat h0 h' (own q (eyeC p n) :: own p (eyC s (rdP1 (rlim n) y P).1) :: mdR b (rdP1 (rlim n) y P).2 :: L) → K h') : F_ref8_eye_number (some (pt q 0)) h fun v h' => V.st (pt b (P + 4)) [.int .u64 v] h' K := by
  refine F_ref8_eye_number.is o.1 (o.eyes E).drop O fun h O => ?_
  have O := O.sel [2, 0, 1] 3 rfl (Nat.le_add_left _ _)
  simp only [selT, List.map, nth, List.drop, List.cons_append, List.nil_append] at O
  refine O.setU hp hc fun h O => k h ?_
  have O := O.sel [1, 2, 0] 3 rfl (Nat.le_add_left _ _)
  simp only [selT, List.map, nth, List.drop, List.cons_append, List.nil_append] at O
  have hl : rlim n P = 18446744073709551615 := by
    have : pk P ≠ 2 := by rcases (cas hp hc).1 rfl with rfl | rfl | rfl | rfl | rfl | rfl | rfl | rfl | rfl <;> decide
    unfold rlim; rw [if_neg this]
  rw [(at_of hp).1 hc, hl]
  exact O
theorem step_i {P : Nat} {K : Heap → Prop} (hc : P = 4 ∨ P = 17) (o : EyOk y bs) (E : Eyes h0 L s bs) (O : Sat h0 h (own q (eyeC p n) :: own p (eyC s y.1) :: mdR b y.2 :: L)) (k : ∀ h', Sat h0 h' (own q (eyeC p n) :: own p (eyC s (rdP1 (rlim n) y P).1) :: mdR b (rdP1 (rlim n) y P).2 :: L) → K h') : F_ref8_eye_number (some (pt q 0)) h fun v h' => V.st (pt b (P + 4)) [.int .i64 (IntKind.i64.wrap v)] h' K := by
  refine F_ref8_eye_number.is o.1 (o.eyes E).drop O fun h O => ?_
  have O := O.sel [2, 0, 1] 3 rfl (Nat.le_add_left _ _)
  simp only [selT, List.map, nth, List.drop, List.cons_append, List.nil_append] at O
  refine O.setI (by omega) (.inr hc) fun h O => k h ?_
  have O := O.sel [1, 2, 0] 3 rfl (Nat.le_add_left _ _)
  simp only [selT, List.map, nth, List.drop, List.cons_append, List.nil_append] at O
  rcases hc with rfl | rfl <;> exact O
theorem step_s {P : Nat} {K : Heap → Prop} (hp : P < 18) (hc : pc P = 1) (o : EyOk y bs) (E : Eyes h0 L s bs) (O : Sat h0 h (own q (eyeC p n) :: own p (eyC s y.1) :: mdR b y.2 :: L)) (k : ∀ h', Sat h0 h' (own q (eyeC p n) :: own p (eyC s (rdP1 (rlim n) y P).1) :: mdR b (rdP1 (rlim n) y P).2 :: L) → K h') : F_ref8_eye_small (some (pt q 0)) h fun v h' => V.st (pt b (P + 4)) [.int .i64 v] h' K := by
  refine F_ref8_eye_small.is o.1 (o.eyes E).drop O fun h O => ?_
  have O := O.sel [2, 0, 1] 3 rfl (Nat.le_add_left _ _)
  simp only [selT, List.map, nth, List.drop, List.cons_append, List.nil_append] at O
  refine O.setI hp (.inl hc) fun h O => k h ?_
  have O := O.sel [1, 2, 0] 3 rfl (Nat.le_add_left _ _)
  simp only [selT, List.map, nth, List.drop, List.cons_append, List.nil_append] at O
  rw [(at_of hp).2.1 hc]
  exact O
theorem step_h {i : Nat} {K : Heap → Prop} (hi : i < 4) (o : EyOk y bs) (E : Eyes h0 L s bs) (O : Sat h0 h (own q (eyeC p n) :: own p (eyC s y.1) :: mdR b y.2 :: L)) (k : ∀ h', Sat h0 h' (own q (eyeC p n) :: own p (eyC s (hstep y i).1) :: mdR b (hstep y i).2 :: L) → K h') : F_ref8_eye_small (some (pt q 0)) h fun v h' => V.st (pt b i) [.int .i64 v] h' K := by
  refine F_ref8_eye_small.is o.1 (o.eyes E).drop O fun h O => ?_
  have O := O.sel [2, 0, 1] 3 rfl (Nat.le_add_left _ _)
  simp only [selT, List.map, nth, List.drop, List.cons_append, List.nil_append] at O
  refine O.setHd hi fun h O => k h ?_
  have O := O.sel [1, 2, 0] 3 rfl (Nat.le_add_left _ _)
  simp only [selT, List.map, nth, List.drop, List.cons_append, List.nil_append] at O
  exact O
theorem step_a {P : Nat} {K : Heap → Prop} (hp : P < 18) (hc : pc P = 2) (hn : n ≤ 9223372036854775807) (o : EyOk y bs) (E : Eyes h0 L s bs) (O : Sat h0 h (own q (eyeC p n) :: own p (eyC s y.1) :: mdR b y.2 :: L)) (k : ∀ h', Sat h0 h' (own q (eyeC p n) :: own p (eyC s (rdP1 (rlim n) y P).1) :: mdR b (rdP1 (rlim n) y P).2 :: L) → K h') : F_ref8_eye_text (some (pt q 0)) h fun v h' => b2s v.ptr v.len h' fun w => V.st (pt b (P + 4)) [.string w] h' K := by
  refine F_ref8_eye_text.is o.1 hn (o.eyes E).drop O fun t h O => ?_
  refine b2s_view (O.view 0 u8_len (by simp) rfl).1 ?_
  have O := O.sel [3, 1, 2] 4 rfl (Nat.le_add_left _ _)
  simp only [selT, List.map, nth, List.drop, List.cons_append, List.nil_append] at O
  refine O.setA hp hc fun h O => k h ?_
  have O := O.sel [1, 2, 0] 3 rfl (Nat.le_add_left _ _)
  simp only [selT, List.map, nth, List.drop, List.cons_append, List.nil_append] at O
  have hl : rlim n P = n := by
    have : pk P = 2 := by rcases (cas hp hc).2.2.1 rfl with rfl | rfl <;> rfl
    unfold rlim; rw [if_pos this]
  rw [(at_of hp).2.2 hc, hl]
  exact O
theorem step_v {K : Heap → Prop} (hn : n ≤ 9223372036854775807) (o : EyOk y bs) (E : Eyes h0 L s bs) (O : Sat h0 h (own q (eyeC p n) :: own p (eyC s y.1) :: mdR b y.2 :: L)) (k : ∀ h', Sat h0 h' (own q (eyeC p n) :: own p (eyC s (rdP1 (rlim n) y 6).1) :: mdR b (rdP1 (rlim n) y 6).2 :: L) → K h') : F_ref8_eye_text (some (pt q 0)) h fun v h' => V.st (pt b 10) [.slice v.ptr v.len v.cap] h' K := by
  refine F_ref8_eye_text.is o.1 hn (o.eyes E).drop O fun t h O => ?_
  have O := O.sel [0, 3, 1, 2] 4 rfl (Nat.le_add_left _ _)
  simp only [selT, List.map, nth, List.drop, List.cons_append, List.nil_append] at O
  refine O.setV fun h O => k h ?_
  have O := O.sel [1, 2, 0] 3 rfl (Nat.le_add_left _ _)
  simp only [selT, List.map, nth, List.drop, List.cons_append, List.nil_append] at O
  exact O
theorem F_ref8_calls.is {Q : Heap → Prop} (hn : n ≤ 9223372036854775807) (hk : ¬ (1 ≤ y.2.kind ∧ y.2.kind ≤ 7)) (o : EyOk y bs) (E : Eyes h0 L s bs) (O : Sat h0 h (own q (eyeC p n) :: own p (eyC s y.1) :: mdR b y.2 :: L)) (k : ∀ h', Sat h0 h' (own q (eyeC p n) :: own p (eyC s ((kp y.2.kind).foldl (rdP1 (rlim n)) y).1) :: mdR b ((kp y.2.kind).foldl (rdP1 (rlim n)) y).2 :: L) → Q h') : F_ref8_calls (some (pt q 0)) (some (pt b 0)) h Q := by
  rw [F_ref8_calls.eq_1, F_ref8_calls_of.eq_1]
  simp only [nn_some, pt_add, Nat.zero_add, Nat.add_zero, Nat.reduceAdd, Nat.reduceMul, Int.toNat_zero, Int.toNat_one, Nat.zero_mul, Nat.one_mul]
  have O2 := O.sel [2, 0, 1] 3 rfl (Nat.le_add_left _ _)
  simp only [selT, List.map, nth, List.drop, List.cons_append, List.nil_append] at O2
  obtain ⟨u, O2⟩ := O2.md
  refine O2.ld 0 rfl (ldL_c (ldL_n ?_))
  clear O2
  refine jn_go ?_
  refine brr_eq (fun e => ?_) (fun n8 => ?_)
  · replace e : y.2.kind = 8 := e
    refine step_s (P := 7) (by decide) rfl o E O fun h O => ?_
    refine step_u (P := 8) (by decide) rfl o.one E O fun h O => ?_
    refine step_a (P := 9) (by decide) rfl hn o.one.one E O fun h O => ?_
    refine step_u (P := 11) (by decide) rfl o.one.one.one E O fun h O => ?_
    have ek : kp y.2.kind = [7, 8, 9, 11] := by rw [e]; rfl
    rw [ek] at k
    exact k h O
  replace n8 : ¬ y.2.kind = 8 := n8
  refine jn_go ?_
  refine brr_eq (fun e => ?_) (fun n9 => ?_)
  · replace e : y.2.kind = 9 := e
    refine step_s (P := 7) (by decide) rfl o E O fun h O => ?_
    refine step_u (P := 8) (by decide) rfl o.one E O fun h O => ?_
    have ek : kp y.2.kind = [7, 8] := by rw [e]; rfl
    rw [ek] at k
    exact k h O
  replace n9 : ¬ y.2.kind = 9 := n9
  refine jn_go ?_
  refine brr_eq (fun e => ?_) (fun n10 => ?_)
  · replace e : y.2.kind = 10 := e
    refine step_u (P := 8) (by decide) rfl o E O fun h O => ?_
    refine step_a (P := 9) (by decide) rfl hn o.one E O fun h O => ?_
    refine step_a (P := 10) (by decide) rfl hn o.one.one E O fun h O => ?_
    refine step_u (P := 11) (by decide) rfl o.one.one.one E O fun h O => ?_
    refine step_u (P := 12) (by decide) rfl o.one.one.one.one E O fun h O => ?_
    refine step_u (P := 13) (by decide) rfl o.one.one.one.one.one E O fun h O => ?_
    refine step_s (P := 14) (by decide) rfl o.one.one.one.one.one.one E O fun h O => ?_
    refine step_s (P := 15) (by decide) rfl o.one.one.one.one.one.one.one E O fun h O => ?_
    have ek : kp y.2.kind = [8, 9, 10, 11, 12, 13, 14, 15] := by rw [e]; rfl
    rw [ek] at k
    exact k h O
  replace n10 : ¬ y.2.kind = 10 := n10
  refine jn_go ?_
  refine brr_eq (fun e => ?_) (fun n11 => ?_)
  · replace e : y.2.kind = 11 := e
    refine step_u (P := 11) (by decide) rfl o E O fun h O => ?_
    refine step_u (P := 12) (by decide) rfl o.one E O fun h O => ?_
    refine step_u (P := 13) (by decide) rfl o.one.one E O fun h O => ?_
    refine step_s (P := 16) (by decide) rfl o.one.one.one E O fun h O => ?_
    refine step_i (P := 17) (by decide) o.one.one.one.one E O fun h O => ?_
    have ek : kp y.2.kind = [11, 12, 13, 16, 17] := by rw [e]; rfl
    rw [ek] at k
    exact k h O
  replace n11 : ¬ y.2.kind = 11 := n11
  have ek : kp y.2.kind = [] := kp_none (fun g => by omega)
  rw [ek] at k
  exact k h O
theorem F_ref8_look.is {a : Sl} {xs : List UInt8} {Q : YQ} (O : Sat h0 h L) (Vx : Stays h0 L fun h => Bytes h a xs ∧ a.len ≤ a.cap) (hx : xs.length ≤ 140737488350000) {d : Mg} (hd : d = (rdAll (rlim xs.length) ⟨xs, 0, 0⟩).2) (k : ∀ s h', Sat h0 h' (buf 1 u8 s d.b :: L) → Q d.kind d.frm d.to d.shard d.epoch d.te d.ts d.round d.span d.seen s d.peer d.num d.name d.other d.amount d.life d.id d.op d.client d.state d.bad h') : F_ref8_look a h Q := by
  rw [F_ref8_look.eq_1, F_ref8_look_of.eq_1]
  have hlen := (Vx h O).1.len
  refine O.al fun z h O => ?_
  have O : Sat h0 h (own z zC :: L) := O
  refine O.al fun p h O => ?_
  have O : Sat h0 h (own p (eyC a ⟨xs, 0, 0⟩) :: own z zC :: L) := O
  refine O.al fun q h O => ?_
  have O : Sat h0 h (own q [.pointer (some (pt p 0)), .int .i64 ((a.len : Nat) : Int)] :: own p (eyC a ⟨xs, 0, 0⟩) :: own z zC :: L) := O
  rw [hlen] at O
  have O : Sat h0 h (own q (eyeC p xs.length) :: own p (eyC a ⟨xs, 0, 0⟩) :: own z zC :: L) := O
  refine O.al fun b h O => ?_
  have O : Sat h0 h (own b (mgC { mgz with v := ⟨none, 0, 0⟩ }) :: own q (eyeC p xs.length) :: own p (eyC a ⟨xs, 0, 0⟩) :: own z zC :: L) := O
  have O := (O.nil_buf (sz := 1) (enc := u8)).swap
  have O : Sat h0 h (mdR b mgz :: own q (eyeC p xs.length) :: own p (eyC a ⟨xs, 0, 0⟩) :: own z zC :: L) := O.mdI
  have O := O.sel [1, 2, 0] 3 rfl (Nat.le_add_left _ _)
  simp only [selT, List.map, nth, List.drop, List.cons_append, List.nil_append] at O
  simp only [nn_some, pt_add, Nat.zero_add, Nat.add_zero, Nat.reduceAdd, Nat.reduceMul, Int.toNat_zero, Int.toNat_one, Nat.zero_mul, Nat.one_mul]
  have hn : xs.length ≤ 9223372036854775807 := by omega
  have E : Eyes h0 (own z zC :: L) a xs := fun h O => Vx h O.drop
  obtain ⟨y0, hy0⟩ : ∃ y : RS × Mg, y = (⟨xs, 0, 0⟩, mgz) := ⟨_, rfl⟩
  have o0 : EyOk y0 xs := by rw [hy0]; exact ⟨⟨Nat.zero_le _, by show xs.length ≤ _; omega, Nat.zero_le _⟩, rfl⟩
  have O : Sat h0 h (own q (eyeC p xs.length) :: own p (eyC a y0.1) :: mdR b y0.2 :: own z zC :: L) := by rw [hy0]; exact O
  have hh : ∀ {y : RS × Mg} (i : Nat), EyOk y xs → EyOk (hstep y i) xs := fun i o => ⟨o.1.next 1, RS.next_b.trans o.2⟩
  refine step_h (i := 0) (by decide) o0 E O fun h O => ?_
  refine step_h (i := 1) (by decide) (hh _ o0) E O fun h O => ?_
  refine step_h (i := 2) (by decide) (hh _ (hh _ o0)) E O fun h O => ?_
  refine step_h (i := 3) (by decide) (hh _ (hh _ (hh _ o0))) E O fun h O => ?_
  have o := hh 3 (hh 2 (hh 1 (hh 0 o0)))
  have hy : hstep (hstep (hstep (hstep y0 0) 1) 2) 3 = rdH ⟨xs, 0, 0⟩ := by rw [hy0]; rfl
  rw [hy] at O o
  obtain ⟨y, ey⟩ : ∃ y, y = rdH ⟨xs, 0, 0⟩ := ⟨_, rfl⟩
  rw [← ey] at O o
  have hall : rdAll (rlim xs.length) ⟨xs, 0, 0⟩ = (kp y.2.kind).foldl (rdP1 (rlim xs.length)) y := by unfold rdAll; rw [ey]
  rw [hall] at hd
  have O2 := O.sel [2, 0, 1] 3 rfl (Nat.le_add_left _ _)
  simp only [selT, List.map, nth, List.drop, List.cons_append, List.nil_append] at O2
  obtain ⟨u, O2⟩ := O2.md
  refine O2.ld 0 rfl (ldL_c (ldL_n ?_))
  clear O2
  clear hy hy0 o0
  refine jn0 (fun h' => Sat h0 h' (mdR b d :: own z zC :: L)) ?_ ?_
  · clear O
    intro h O
    obtain ⟨s, O⟩ := O.md
    refine O.ld 0 rfl (mgC_ld ?_)
    refine O.st 2 rfl (by simp [zC, mgC]) rfl fun h O => ?_
    dsimp only [List.set] at O
    rw [put_all (by rfl)] at O
    have O : Sat h0 h (own b (mgC { d with v := s }) :: buf 1 u8 s d.b :: own z (mgC { d with v := s }) :: L) := O
    refine O.ld 2 rfl (mgC_ld ?_)
    exact k s h (O.sel [1] 3 rfl (Nat.le_add_left _ _))
  · intro j hj
    have fin : ∀ {ps : List Nat} {h : Heap}, kp y.2.kind = ps → Sat h0 h (own q (eyeC p xs.length) :: own p (eyC a (ps.foldl (rdP1 (rlim xs.length)) y).1) :: mdR b (ps.foldl (rdP1 (rlim xs.length)) y).2 :: own z zC :: L) → j h := by
      intro ps h e O
      subst e
      rw [← hd] at O
      exact hj h O.drop.drop
    refine brr_eq (fun e => ?_) (fun n1 => ?_)
    · replace e : y.2.kind = 1 := e
      refine step_u (P := 0) (by decide) rfl o E O fun h O => ?_
      have ek : kp y.2.kind = [0] := by rw [e]; rfl
      exact fin ek O
    replace n1 : ¬ y.2.kind = 1 := n1
    refine jn_go ?_
    refine brr_eq (fun e => ?_) (fun n2 => ?_)
    · replace e : y.2.kind = 2 := e
      refine step_u (P := 0) (by decide) rfl o E O fun h O => ?_
      refine step_u (P := 1) (by decide) rfl o.one E O fun h O => ?_
      refine step_u (P := 2) (by decide) rfl o.one.one E O fun h O => ?_
      refine step_v hn o.one.one.one E O fun h O => ?_
      have ek : kp y.2.kind = [0, 1, 2, 6] := by rw [e]; rfl
      exact fin ek O
    replace n2 : ¬ y.2.kind = 2 := n2
    refine jn_go ?_
    refine brr_eq (fun e => ?_) (fun n3 => ?_)
    · replace e : y.2.kind = 3 := e
      refine step_u (P := 0) (by decide) rfl o E O fun h O => ?_
      refine step_u (P := 5) (by decide) rfl o.one E O fun h O => ?_
      have ek : kp y.2.kind = [0, 5] := by rw [e]; rfl
      exact fin ek O
    replace n3 : ¬ y.2.kind = 3 := n3
    refine jn_go ?_
    refine brr_eq (fun e => ?_) (fun n4 => ?_)
    · replace e : y.2.kind = 4 := e
      refine step_u (P := 1) (by decide) rfl o E O fun h O => ?_
      refine step_u (P := 2) (by decide) rfl o.one E O fun h O => ?_
      refine step_i (P := 4) (by decide) o.one.one E O fun h O => ?_
      refine step_v hn o.one.one.one E O fun h O => ?_
      have ek : kp y.2.kind = [1, 2, 4, 6] := by rw [e]; rfl
      exact fin ek O
    replace n4 : ¬ y.2.kind = 4 := n4
    refine jn_go ?_
    refine brr_eq (fun e => ?_) (fun n5 => ?_)
    · replace e : y.2.kind = 5 := e
      refine step_u (P := 1) (by decide) rfl o E O fun h O => ?_
      refine step_u (P := 2) (by decide) rfl o.one E O fun h O => ?_
      have ek : kp y.2.kind = [1, 2] := by rw [e]; rfl
      exact fin ek O
    replace n5 : ¬ y.2.kind = 5 := n5
    refine jn_go ?_
    refine brr_eq (fun e => ?_) (fun n6 => ?_)
    · replace e : y.2.kind = 6 := e
      refine step_u (P := 0) (by decide) rfl o E O fun h O => ?_
      refine step_u (P := 3) (by decide) rfl o.one E O fun h O => ?_
      refine step_i (P := 4) (by decide) o.one.one E O fun h O => ?_
      have ek : kp y.2.kind = [0, 3, 4] := by rw [e]; rfl
      exact fin ek O
    replace n6 : ¬ y.2.kind = 6 := n6
    refine jn_go ?_
    refine brr_eq (fun e => ?_) (fun n7 => ?_)
    · replace e : y.2.kind = 7 := e
      refine step_u (P := 0) (by decide) rfl o E O fun h O => ?_
      refine step_u (P := 3) (by decide) rfl o.one E O fun h O => ?_
      have ek : kp y.2.kind = [0, 3] := by rw [e]; rfl
      exact fin ek O
    replace n7 : ¬ y.2.kind = 7 := n7
    refine F_ref8_calls.is hn (fun g => by omega) o E O fun h O => ?_
    exact fin rfl O
theorem b_fold {lim : Nat → Nat} {N : Nat} : ∀ (ps : List Nat) (y : RS × Mg), y.1.Ok → y.1.b.length ≤ N → y.2.b.length ≤ N → (ps.foldl (rdP1 lim) y).2.b.length ≤ N
  | [], y, _, _, h2 => h2
  | p :: ps, y, o, h1, h2 => by
    have ho := one_ok (lim := lim) (p := p) o
    refine b_fold ps (rdP1 lim y p) ho.1 (by rw [ho.2]; exact h1) ?_
    have key : ∀ n l, l.length ≤ N → (pset p n l y.2).b.length ≤ N := by
      intro n l hl
      show (if p = 6 then l else y.2.b).length ≤ N
      split
      · exact hl
      · exact h2
    unfold rdP1
    split
    · exact key _ _ (Nat.le_trans RS.bytesP_le h1)
    split
    · exact key _ _ (by simp)
    · exact key _ _ (by simp)
theorem seal_take {xs : List UInt8} (h4 : 4 ≤ xs.length) : sealB (xs.take (xs.length - 4)) = xs ↔ beN (xs.drop (xs.length - 4)) = (crc (xs.take (xs.length - 4))).toNat := by
  have hd : (xs.drop (xs.length - 4)).length = 4 := by rw [List.length_drop]; omega
  have hlt := (crc (xs.take (xs.length - 4))).isLt
  unfold sealB
  constructor
  · intro e
    have e2 : xs.take (xs.length - 4) ++ fixB (crc (xs.take (xs.length - 4))).toNat 4 = xs.take (xs.length - 4) ++ xs.drop (xs.length - 4) := by rw [e, List.take_append_drop]
    have e3 := List.append_cancel_left e2
    rw [← e3, beN_fixB 4 _ (by omega)]
  · intro e
    rw [← e, fixB_beN 4 _ hd, List.take_append_drop]
theorem seal_inj {ys xs : List UInt8} (e : sealB ys = xs) : ys = xs.take (xs.length - 4) := by
  subst e
  unfold sealB
  rw [List.length_append, fixB_len, Nat.add_sub_cancel, List.take_left]
theorem F_ref8_Decode.isW {a : Sl} {xs : List UInt8} {Q : Int → Int → Int → Int → Int → Int → Int → Int → Int → Int → Sl → Int → Int → ByteArray → ByteArray → Int → Int → Int → Int → Int → Int → Int → Int → Heap → Prop} (O : Sat h0 h L) (Vx : Stays h0 L fun h => Bytes h a xs ∧ a.len ≤ a.cap) {d : Mg} {e : Int} (hx : xs.length < 4611686018427387904) (hd : decP xs = (d, e)) (k : ∀ s h', Sat h0 h' (buf 1 u8 s d.b :: L) → Q d.kind d.frm d.to d.shard d.epoch d.te d.ts d.round d.span d.seen s d.peer d.num d.name d.other d.amount d.life d.id d.op d.client d.state d.bad e h') : F_ref8_Decode a h Q := by
  rw [F_ref8_Decode.eq_1, F_ref8_Decode_of.eq_1]
  have hlen := (Vx h O).1.len
  refine O.al fun z h O => ?_
  have O : Sat h0 h (own z zC :: L) := O
  have bad : ∀ (e : Int) (h : Heap), decP xs = (mgz, e) → Sat h0 h (own z zC :: L) → V.st (pt z 0) zC h fun h7 => ld K22 (pt z 0) h7 fun (v8 : Int) (v9 : Int) (v10 : Int) (v11 : Int) (v12 : Int) (v13 : Int) (v14 : Int) (v15 : Int) (v16 : Int) (v17 : Int) (v18 : Sl) (v19 : Int) (v20 : Int) (v21 : ByteArray) (v22 : ByteArray) (v23 : Int) (v24 : Int) (v25 : Int) (v26 : Int) (v27 : Int) (v28 : Int) (v29 : Int) => Q v8 v9 v10 v11 v12 v13 v14 v15 v16 v17 v18 v19 v20 v21 v22 v23 v24 v25 v26 v27 v28 v29 e h7 := by
    intro e h he O
    refine zero_out (Q := fun v8 v9 v10 v11 v12 v13 v14 v15 v16 v17 v18 v19 v20 v21 v22 v23 v24 v25 v26 v27 v28 v29 h7 => Q v8 v9 v10 v11 v12 v13 v14 v15 v16 v17 v18 v19 v20 v21 v22 v23 v24 v25 v26 v27 v28 v29 e h7) O fun h O => ?_
    obtain ⟨rfl, rfl⟩ := Prod.mk.inj (hd.symm.trans he)
    exact k nilS h O.nil_buf
  refine jn1 (fun (y : Bool) h' => h' = h ∧ y = decide (xs.length < 4 ∨ 17000 < xs.length)) ?_ ?_
  · rintro y h1 ⟨e, rfl⟩
    subst e
    refine brr_p (fun hb => ?_) (fun hb => ?_)
    · exact bad 81 _ (by unfold decP; rw [if_pos hb]) O
    have hx : xs.length ≤ (140737488355325 : Nat) := by omega
    obtain ⟨hV, hcap⟩ := Vx h1 O.drop
    rw [hlen, wrap64 (by omega) (by omega)]
    have et : (((xs.length : Nat) : Int) - 4).toNat = xs.length - 4 := by omega
    refine ⟨by omega, by omega, ?_⟩
    rw [et]
    have Vt : Stays h0 L fun h => Bytes h ⟨a.ptr, xs.length - 4, a.cap⟩ (xs.take (xs.length - 4)) := fun h O => (Vx h O).1.take _ _ (by omega)
    have hst := seal_take (xs := xs) (by omega)
    have hsl : (sealB (xs.take (xs.length - 4))).length = xs.length := by
      unfold sealB
      rw [List.length_append, fixB_len, List.length_take]; omega
    refine F_ref8_Seal.is O (fun h O => Vt h O.drop) (by rw [List.length_take]; omega) fun s h O => ?_
    refine F_ref0_Eq.is (O.view 0 u8_len (by simp) rfl).1 (Vx h O.drop.drop).1 (by omega) (by omega) ?_
    have O := O.drop
    refine brr_not ?_
    refine brr_p (fun hs => ?_) (fun hs => ?_)
    rotate_left
    · exact bad 82 _ (by unfold decP; rw [if_neg hb, if_neg (fun g => hs (hst.2 g))]) O
    have hdec : decP xs = refX (xs.take (xs.length - 4)) := by
      unfold decP
      rw [if_neg hb, if_pos (hst.1 hs), dec_ref (by rw [List.length_take]; omega)]
    refine ⟨by omega, by omega, ?_⟩
    rw [et]
    obtain ⟨ys, hys⟩ : ∃ ys, ys = xs.take (xs.length - 4) := ⟨_, rfl⟩
    rw [← hys] at hdec Vt hs
    have hyl : ys.length = xs.length - 4 := by rw [hys, List.length_take]; omega
    obtain ⟨w, hw⟩ : ∃ w, w = (rdAll (rlim ys.length) ⟨ys, 0, 0⟩).2 := ⟨_, rfl⟩
    refine F_ref8_look.is (xs := ys) O (fun h O => ⟨Vt h O.drop, by show xs.length - 4 ≤ a.cap; omega⟩) (by omega) hw fun s h O => ?_
    have o1 : RS.Ok ⟨ys, 0, 0⟩ := ⟨Nat.zero_le _, by show ys.length ≤ _; omega, Nat.zero_le _⟩
    have oH := hstep_ok (List.range 4) (⟨ys, 0, 0⟩, mgz) o1
    rw [rdH_fold] at oH
    have pw : Pos w := by
      rw [hw]
      unfold rdAll
      refine pos_fold _ _ kp_lt.2 ?_
      intro q hq
      show 0 ≤ pget q mgz
      unfold pget
      split <;> decide
    have bw : w.b.length ≤ ys.length := by
      rw [hw]
      unfold rdAll
      exact b_fold _ _ oH.1 (by rw [oH.2]; exact Nat.le_refl _) (Nat.zero_le _)
    refine O.al fun t h O => ?_
    refine O.st 0 rfl (by simp) rfl fun h O => ?_
    dsimp only [List.set] at O
    rw [put_all (by rfl)] at O
    have O : Sat h0 h (own t (mgC { w with v := s }) :: buf 1 u8 s w.b :: own z zC :: L) := O
    refine O.ld 0 rfl (mgC_ld ?_)
    refine F_ref8_Encode.is (m := { w with v := s }) O (fun h O => (O.view 1 u8_len (by simp) rfl).1) (by show w.b.length < _; omega) pw fun s2 h O => ?_
    have hwr : wrongM { w with v := s } = wrongM w := rfl
    have hen : encB { w with v := s } = encB w := rfl
    rw [hwr]
    rw [hen] at O
    refine jn1 (fun (y : Bool) h' => y = !decide (wrongM w = 0 ∧ bodyM w = ys) ∧ Sat h0 h' (own t (mgC { w with v := s }) :: buf 1 u8 s w.b :: own z zC :: L)) ?_ ?_
    · clear O
      rintro y h ⟨rfl, O⟩
      refine brr_not ?_
      refine brr_p (fun hg => ?_) (fun hg => ?_)
      · have hd2 : decP xs = (w, 0) := by
          rw [hdec]
          unfold refX
          rw [← hw, if_pos hg]
        obtain ⟨ed, ee⟩ := Prod.mk.inj (hd.symm.trans hd2)
        refine O.ld 0 rfl (mgC_ld ?_)
        refine O.st 2 rfl (by simp [zC, mgC]) rfl fun h O => ?_
        dsimp only [List.set] at O
        rw [put_all (by rfl)] at O
        have O : Sat h0 h (own t (mgC { w with v := s }) :: buf 1 u8 s w.b :: own z (mgC { w with v := s }) :: L) := O
        refine O.ld 2 rfl (mgC_ld ?_)
        have k2 := k s h
        rw [ed, ee] at k2
        exact k2 (O.sel [1] 3 rfl (Nat.le_add_left _ _))
      · refine bad 81 _ ?_ O.drop.drop
        rw [hdec]
        unfold refX
        rw [← hw, if_neg hg]
    · intro j hj
      refine brr_ne (fun hne => ?_) (fun he => ?_)
      · refine hj _ _ ⟨?_, O.drop⟩
        rw [decide_eq_false fun g => hne g.1]; rfl
      · have hb2 := body_le he
        have eE : encB w = sealB (bodyM w) := by unfold encB; rw [if_pos he]
        refine F_ref0_Eq.is (O.view 0 u8_len (by simp) rfl).1 (Vx h O.drop.drop.drop.drop).1 (by rw [eE]; unfold sealB; rw [List.length_append, fixB_len]; omega) (by omega) ?_
        refine hj _ _ ⟨?_, O.drop⟩
        congr 1
        refine decide_eq_decide.2 ?_
        rw [eE]
        constructor
        · intro g
          refine ⟨he, ?_⟩
          rw [hys]
          exact seal_inj g
        · rintro ⟨_, g⟩
          rw [g]
          exact hs
  · intro j hj
    rw [hlen]
    refine brr_p (fun h1 => ?_) (fun h1 => ?_)
    · refine hj _ _ ⟨rfl, ?_⟩
      simp; omega
    · refine hj _ _ ⟨rfl, ?_⟩
      exact decide_eq_decide.2 (by omega)
end
end Go.Proofs.YthiginhigfieiaaGreatDoor.V
namespace Go.Proofs.YthiginhigfieiaaGreatDoor.V
open Go Go.RowKit
set_option linter.unusedVariables false
set_option maxRecDepth 100000
def F_law8_num_of  (e1 : Int) (h : Heap) (Q : Int → Heap → Prop) : Prop :=
  Q e1 h
def F_law8_num (e1 : Int) (h : Heap) (Q : Int → Heap → Prop) : Prop := F_law8_num_of  e1 h Q
def plan11 : Plan := .s (.r [0]) (.s (.r [2]) .z)
theorem F_law8_num.eq  (e1 : Int) (h : Heap) (K : YV) : F_law8_num_of  e1 h (fun (r0 : Int) (h : Heap) => K (.int .i64 r0) h) =
    den Tryz.prog noFns Tryz.f11.ntmps plan11 (bodyOf Tryz.f11) (args0 0 [(.int .i64 e1 : Value)]) h (konF Tryz.f11 K) := by kernel_rfl
def E_law8_num_of (f : Y12) : List Value → Heap → YV → Prop
  | [v0], h, K => dec1 (.int .i64) v0 fun (e1 : Int) =>
  f e1 h (fun (r0 : Int) (h : Heap) => K (.int .i64 r0) h)
  | _, _, _ => False
abbrev E_law8_num := E_law8_num_of F_law8_num
theorem E_law8_num.right : IsRight Tryz.prog 11 E_law8_num := by
  refine isRight fun vs K w hh => ?_
  match vs, hh with
  | [v0], hh =>
    unfold E_law8_num E_law8_num_of at hh
    replace hh := dec1_sound hh; obtain ⟨e1, rfl, hh⟩ := hh
    unfold F_law8_num at hh
    exact calls_den noFns_right plan11 _ w K Tryz.func11 (by kernel_rfl) (by kernel_rfl) (Eq.mp (F_law8_num.eq  e1 w.heap K) hh)
theorem ok11 : okFn Tryz.prog 11 = true := by kernel_rfl
def F_law8_begun_of (f9_ : Y21) (f11_ : Y12) (f12_ : Y22) (f16_ : Y17) (f18_ : Y23) (f28_ : Y7) (h : Heap) (Q : Bool → Heap → Prop) : Prop :=
  al 52 [.int .i64 0, .int .i64 0, .int .i64 0, .int .i64 0, .int .u64 0, .int .u64 0, .int .u64 0, .int .u64 0, .int .i64 0, .int .u64 0, .slice none 0 0, .int .i64 0, .int .u64 0, .string (⟨#[]⟩ : ByteArray), .string (⟨#[]⟩ : ByteArray), .int .u64 0, .int .u64 0, .int .u64 0, .int .i64 0, .int .i64 0, .int .i64 0, .int .i64 0] h fun (a1 : Addr) (h2 : Heap) =>
  st a1 [.int .i64 1, .int .i64 1, .int .i64 2, .int .i64 0, .int .u64 5, .int .u64 0, .int .u64 0, .int .u64 0, .int .i64 0, .int .u64 0, .slice none 0 0, .int .i64 0, .int .u64 0, .string (⟨#[]⟩ : ByteArray), .string (⟨#[]⟩ : ByteArray), .int .u64 0, .int .u64 0, .int .u64 0, .int .i64 0, .int .i64 0, .int .i64 0, .int .i64 0] h2 fun (h3 : Heap) =>
  ld K22 a1 h3 fun (v4 v5 v6 v7 v8 v9 v10 v11 v12 v13 : Int) (v14 : Sl) (v15 v16 : Int) (v17 v18 : ByteArray) (v19 v20 v21 v22 v23 v24 v25 : Int) =>
  f9_ v4 v5 v6 v7 v8 v9 v10 v11 v12 v13 v14 v15 v16 v17 v18 v19 v20 v21 v22 v23 v24 v25 h3 fun (r26 : Sl) (r27 : Int) (h28 : Heap) =>
  al 5 [.int .u8 1, .int .u8 1, .int .u8 2, .int .u8 0, .int .u8 5] h28 fun (a29 : Addr) (h30 : Heap) =>
  f28_ ⟨(some a29), 5, 5⟩ h30 fun (r31 : Sl) (h32 : Heap) =>
  f16_ r31 h32 fun (r33 r34 r35 r36 r37 r38 r39 r40 r41 r42 : Int) (r43 : Sl) (r44 r45 : Int) (r46 r47 : ByteArray) (r48 r49 r50 r51 r52 r53 r54 r55 : Int) (h56 : Heap) =>
  al 52 [.int .i64 0, .int .i64 0, .int .i64 0, .int .i64 0, .int .u64 0, .int .u64 0, .int .u64 0, .int .u64 0, .int .i64 0, .int .u64 0, .slice none 0 0, .int .i64 0, .int .u64 0, .string (⟨#[]⟩ : ByteArray), .string (⟨#[]⟩ : ByteArray), .int .u64 0, .int .u64 0, .int .u64 0, .int .i64 0, .int .i64 0, .int .i64 0, .int .i64 0] h56 fun (a57 : Addr) (h58 : Heap) =>
  st a57 [.int .i64 r33, .int .i64 r34, .int .i64 r35, .int .i64 r36, .int .u64 r37, .int .u64 r38, .int .u64 r39, .int .u64 r40, .int .i64 r41, .int .u64 r42, .slice r43.ptr r43.len r43.cap, .int .i64 r44, .int .u64 r45, .string r46, .string r47, .int .u64 r48, .int .u64 r49, .int .u64 r50, .int .i64 r51, .int .i64 r52, .int .i64 r53, .int .i64 r54] h58 fun (h59 : Heap) =>
  al 5 [.int .u8 1, .int .u8 1, .int .u8 2, .int .u8 0, .int .u8 5] h59 fun (a60 : Addr) (h61 : Heap) =>
  f16_ ⟨(some a60), 5, 5⟩ h61 fun (r62 r63 r64 r65 r66 r67 r68 r69 r70 r71 : Int) (r72 : Sl) (r73 r74 : Int) (r75 r76 : ByteArray) (r77 r78 r79 r80 r81 r82 r83 r84 : Int) (h85 : Heap) =>
  al 52 [.int .i64 0, .int .i64 0, .int .i64 0, .int .i64 0, .int .u64 0, .int .u64 0, .int .u64 0, .int .u64 0, .int .i64 0, .int .u64 0, .slice none 0 0, .int .i64 0, .int .u64 0, .string (⟨#[]⟩ : ByteArray), .string (⟨#[]⟩ : ByteArray), .int .u64 0, .int .u64 0, .int .u64 0, .int .i64 0, .int .i64 0, .int .i64 0, .int .i64 0] h85 fun (a86 : Addr) (h87 : Heap) =>
  st a86 [.int .i64 r62, .int .i64 r63, .int .i64 r64, .int .i64 r65, .int .u64 r66, .int .u64 r67, .int .u64 r68, .int .u64 r69, .int .i64 r70, .int .u64 r71, .slice r72.ptr r72.len r72.cap, .int .i64 r73, .int .u64 r74, .string r75, .string r76, .int .u64 r77, .int .u64 r78, .int .u64 r79, .int .i64 r80, .int .i64 r81, .int .i64 r82, .int .i64 r83] h87 fun (h88 : Heap) =>
  jn [(0, .one .bool)] (fun (x148 : Bool) (h149 : Heap) =>
  Q x148 h149) (fun (j89 : Bool → Heap → Prop) =>
  f11_ r27 h88 fun (r90 : Int) (h91 : Heap) =>
  brr (r90 == 0)
  (f11_ r55 h91 fun (r92 : Int) (h93 : Heap) =>
  brr (r92 == 0)
  (al 5 [.int .u8 1, .int .u8 1, .int .u8 2, .int .u8 0, .int .u8 5] h93 fun (a94 : Addr) (h95 : Heap) =>
  f28_ ⟨(some a94), 5, 5⟩ h95 fun (r96 : Sl) (h97 : Heap) =>
  f12_ r26 r96 h97 fun (r98 : Bool) (h99 : Heap) =>
  brr r98
  (ld K22 a57 h99 fun (v100 v101 v102 v103 v104 v105 v106 v107 v108 v109 : Int) (v110 : Sl) (v111 v112 : Int) (v113 v114 : ByteArray) (v115 v116 v117 v118 v119 v120 v121 : Int) =>
  ld K22 a1 h99 fun (v122 v123 v124 v125 v126 v127 v128 v129 v130 v131 : Int) (v132 : Sl) (v133 v134 : Int) (v135 v136 : ByteArray) (v137 v138 v139 v140 v141 v142 v143 : Int) =>
  f18_ v100 v101 v102 v103 v104 v105 v106 v107 v108 v109 v110 v111 v112 v113 v114 v115 v116 v117 v118 v119 v120 v121 v122 v123 v124 v125 v126 v127 v128 v129 v130 v131 v132 v133 v134 v135 v136 v137 v138 v139 v140 v141 v142 v143 h99 fun (r144 : Bool) (h145 : Heap) =>
  brr r144
  (f11_ r84 h145 fun (r146 : Int) (h147 : Heap) =>
  j89 (r146 == 82) h147)
  (j89 false h145))
  (j89 false h99))
  (j89 false h93))
  (j89 false h91))
def F_law8_begun  (h : Heap) (Q : Bool → Heap → Prop) : Prop := F_law8_begun_of F_message_Encode F_law8_num F_ref0_Eq F_message_Decode F_ref0_EqMsg F_ref8_Seal  h Q
def plan7 : Plan := .s (.r []) (.s (.r [1]) (.s (.r [1, 2, 3]) (.s (.r [1, 2, 3, 4, 5]) (.s (.r [1, 2, 3, 4, 5, 7]) (.s (.rj [(0, .one .bool)] []) .z)))))
theorem F_law8_begun.eq (f9_ : Y21) (f11_ : Y12) (f12_ : Y22) (f16_ : Y17) (f18_ : Y23) (f28_ : Y7) (h : Heap) (K : YV) : F_law8_begun_of f9_ f11_ f12_ f16_ f18_ f28_  h (fun (r0 : Bool) (h : Heap) => K (.bool r0) h) =
    den Tryz.prog (fn1 9 (E_message_Encode_of f9_) (fn1 11 (E_law8_num_of f11_) (fn1 12 (E_ref0_Eq_of f12_) (fn1 16 (E_message_Decode_of f16_) (fn1 18 (E_ref0_EqMsg_of f18_) (fn1 28 (E_ref8_Seal_of f28_) noFns)))))) Tryz.f7.ntmps plan7 (bodyOf Tryz.f7) (args0 0 []) h (konF Tryz.f7 K) := by kernel_rfl
def E_law8_begun_of (f : Y27) : List Value → Heap → YV → Prop
  | [], h, K => f  h (fun (r0 : Bool) (h : Heap) => K (.bool r0) h)
  | _, _, _ => False
abbrev E_law8_begun := E_law8_begun_of F_law8_begun
theorem E_law8_begun.nil (f : Y27) (h : Heap) (K : YV) : E_law8_begun_of f [] h K = f  h (fun (r0 : Bool) (h : Heap) => K (.bool r0) h) := rfl
theorem E_law8_begun.right : IsRight Tryz.prog 7 E_law8_begun := by
  refine isRight fun vs K w hh => ?_
  match vs, hh with
  | [], hh =>
    replace hh := Eq.mp (E_law8_begun.nil F_law8_begun w.heap K) hh
    unfold F_law8_begun at hh
    exact calls_den (fn1_right ok9 E_message_Encode.right (fn1_right ok11 E_law8_num.right (fn1_right ok12 E_ref0_Eq.right (fn1_right ok16 E_message_Decode.right (fn1_right ok18 E_ref0_EqMsg.right (fn1_right ok28 E_ref8_Seal.right noFns_right)))))) plan7 _ w K Tryz.func7 (by kernel_rfl) (by kernel_rfl) (Eq.mp (F_law8_begun.eq F_message_Encode F_law8_num F_ref0_Eq F_message_Decode F_ref0_EqMsg F_ref8_Seal  w.heap K) hh)
theorem ok7 : okFn Tryz.prog 7 = true := by kernel_rfl
def F_law8_same_of (f11_ : Y12) (f16_ f17_ : Y17) (f18_ : Y23) (b1 : Sl) (h : Heap) (Q : Bool → Heap → Prop) : Prop :=
  f16_ b1 h fun (r2 r3 r4 r5 r6 r7 r8 r9 r10 r11 : Int) (r12 : Sl) (r13 r14 : Int) (r15 r16 : ByteArray) (r17 r18 r19 r20 r21 r22 r23 r24 : Int) (h25 : Heap) =>
  al 52 [.int .i64 0, .int .i64 0, .int .i64 0, .int .i64 0, .int .u64 0, .int .u64 0, .int .u64 0, .int .u64 0, .int .i64 0, .int .u64 0, .slice none 0 0, .int .i64 0, .int .u64 0, .string (⟨#[]⟩ : ByteArray), .string (⟨#[]⟩ : ByteArray), .int .u64 0, .int .u64 0, .int .u64 0, .int .i64 0, .int .i64 0, .int .i64 0, .int .i64 0] h25 fun (a26 : Addr) (h27 : Heap) =>
  st a26 [.int .i64 r2, .int .i64 r3, .int .i64 r4, .int .i64 r5, .int .u64 r6, .int .u64 r7, .int .u64 r8, .int .u64 r9, .int .i64 r10, .int .u64 r11, .slice r12.ptr r12.len r12.cap, .int .i64 r13, .int .u64 r14, .string r15, .string r16, .int .u64 r17, .int .u64 r18, .int .u64 r19, .int .i64 r20, .int .i64 r21, .int .i64 r22, .int .i64 r23] h27 fun (h28 : Heap) =>
  f17_ b1 h28 fun (r29 r30 r31 r32 r33 r34 r35 r36 r37 r38 : Int) (r39 : Sl) (r40 r41 : Int) (r42 r43 : ByteArray) (r44 r45 r46 r47 r48 r49 r50 r51 : Int) (h52 : Heap) =>
  al 52 [.int .i64 0, .int .i64 0, .int .i64 0, .int .i64 0, .int .u64 0, .int .u64 0, .int .u64 0, .int .u64 0, .int .i64 0, .int .u64 0, .slice none 0 0, .int .i64 0, .int .u64 0, .string (⟨#[]⟩ : ByteArray), .string (⟨#[]⟩ : ByteArray), .int .u64 0, .int .u64 0, .int .u64 0, .int .i64 0, .int .i64 0, .int .i64 0, .int .i64 0] h52 fun (a53 : Addr) (h54 : Heap) =>
  st a53 [.int .i64 r29, .int .i64 r30, .int .i64 r31, .int .i64 r32, .int .u64 r33, .int .u64 r34, .int .u64 r35, .int .u64 r36, .int .i64 r37, .int .u64 r38, .slice r39.ptr r39.len r39.cap, .int .i64 r40, .int .u64 r41, .string r42, .string r43, .int .u64 r44, .int .u64 r45, .int .u64 r46, .int .i64 r47, .int .i64 r48, .int .i64 r49, .int .i64 r50] h54 fun (h55 : Heap) =>
  jn [(2, .one .bool)] (fun (x105 : Bool) (h106 : Heap) =>
  Q x105 h106) (fun (j56 : Bool → Heap → Prop) =>
  f11_ r24 h55 fun (r57 : Int) (h58 : Heap) =>
  brr (r57 == r51)
  (ld K22 a26 h58 fun (v59 v60 v61 v62 v63 v64 v65 v66 v67 v68 : Int) (v69 : Sl) (v70 v71 : Int) (v72 v73 : ByteArray) (v74 v75 v76 v77 v78 v79 v80 : Int) =>
  ld K22 a53 h58 fun (v81 v82 v83 v84 v85 v86 v87 v88 v89 v90 : Int) (v91 : Sl) (v92 v93 : Int) (v94 v95 : ByteArray) (v96 v97 v98 v99 v100 v101 v102 : Int) =>
  f18_ v59 v60 v61 v62 v63 v64 v65 v66 v67 v68 v69 v70 v71 v72 v73 v74 v75 v76 v77 v78 v79 v80 v81 v82 v83 v84 v85 v86 v87 v88 v89 v90 v91 v92 v93 v94 v95 v96 v97 v98 v99 v100 v101 v102 h58 fun (r103 : Bool) (h104 : Heap) =>
  j56 r103 h104)
  (j56 false h58))
def F_law8_same (b1 : Sl) (h : Heap) (Q : Bool → Heap → Prop) : Prop := F_law8_same_of F_law8_num F_message_Decode F_ref8_Decode F_ref0_EqMsg b1 h Q
def plan27 : Plan := .s (.r [0]) (.s (.r [0, 3, 4]) (.s (.r [3, 4, 5, 6]) (.s (.rj [(2, .one .bool)] []) .z)))
theorem F_law8_same.eq (f11_ : Y12) (f16_ f17_ : Y17) (f18_ : Y23) (b1 : Sl) (h : Heap) (K : YV) : F_law8_same_of f11_ f16_ f17_ f18_ b1 h (fun (r0 : Bool) (h : Heap) => K (.bool r0) h) =
    den Tryz.prog (fn1 11 (E_law8_num_of f11_) (fn1 16 (E_message_Decode_of f16_) (fn1 17 (E_ref8_Decode_of f17_) (fn1 18 (E_ref0_EqMsg_of f18_) noFns)))) Tryz.f27.ntmps plan27 (bodyOf Tryz.f27) (args0 0 [(.slice b1.ptr b1.len b1.cap : Value)]) h (konF Tryz.f27 K) := by kernel_rfl
def E_law8_same_of (f : Y38) : List Value → Heap → YV → Prop
  | [v0], h, K => dec1 .sl v0 fun (b1 : Sl) =>
  f b1 h (fun (r0 : Bool) (h : Heap) => K (.bool r0) h)
  | _, _, _ => False
abbrev E_law8_same := E_law8_same_of F_law8_same
theorem E_law8_same.right : IsRight Tryz.prog 27 E_law8_same := by
  refine isRight fun vs K w hh => ?_
  match vs, hh with
  | [v0], hh =>
    unfold E_law8_same E_law8_same_of at hh
    replace hh := dec1_sound hh; obtain ⟨b1, rfl, hh⟩ := hh
    unfold F_law8_same at hh
    exact calls_den (fn1_right ok11 E_law8_num.right (fn1_right ok16 E_message_Decode.right (fn1_right ok17 E_ref8_Decode.right (fn1_right ok18 E_ref0_EqMsg.right noFns_right)))) plan27 _ w K Tryz.func27 (by kernel_rfl) (by kernel_rfl) (Eq.mp (F_law8_same.eq F_law8_num F_message_Decode F_ref8_Decode F_ref0_EqMsg b1 w.heap K) hh)
theorem ok27 : okFn Tryz.prog 27 = true := by kernel_rfl
end Go.Proofs.YthiginhigfieiaaGreatDoor.V
/- What the laws of messages begin and end with. -/
namespace Go.Proofs.YthiginhigfieiaaGreatDoor.V
open Go Go.RowKit
set_option linter.unusedVariables false
set_option linter.unusedSimpArgs false
section
variable {h0 h : Heap} {L : List Res} {m : Mg}
def bl (p : Nat) : Nat := if p = 6 then 16394 else 74
theorem bytP_bl {p : Nat} (hp : p < 18) (hm : mayB p m = true) : (bytP p m).length ≤ bl p := by
  have h1 := bytP_le hp hm
  unfold bl
  split
  · exact h1
  · rename_i h6
    unfold bytP
    split
    · rename_i h2
      have g := may_txt hm h2
      have g2 : pmax p ≤ 64 := by
        unfold pk at h2
        split at h2 <;> first | (exact absurd h2 (by decide)) | (exact absurd rfl h6) | decide
      rw [List.length_append]
      have := (varB_le (n := (ptxt p m).length) (by omega)).1
      omega
    · rename_i h2
      split
      · rw [fixB_len]; omega
      · obtain ⟨g1, g2⟩ := may_num hm h2
        have g3 := pmax_le p
        have := (varB_le (n := (pget p m).toNat) (by omega)).1
        omega
theorem bytes_bl : ∀ (ps : List Nat), (∀ p ∈ ps, p < 18 ∧ mayB p m = true) → (ps.flatMap fun p => bytP p m).length ≤ (ps.map bl).sum
  | [], _ => by simp
  | p :: ps, h => by
    have h1 := bytP_bl (h p List.mem_cons_self).1 (h p List.mem_cons_self).2
    have h2 := bytes_bl ps fun q hq => h q (List.mem_cons_of_mem _ hq)
    rw [List.flatMap_cons, List.length_append, List.map_cons, List.sum_cons]
    omega
theorem kp_bl (k : Int) : ((kp k).map bl).sum ≤ 16986 := by
  unfold kp
  generalize k.toNat = n
  unfold kpN
  split <;> decide
theorem body_len (hw : wrongM m = 0) : (bodyM m).length ≤ 16990 ∧ 4 ≤ (bodyM m).length := by
  obtain ⟨hk, hh, hf⟩ := wrong_zero hw
  have h1 := bytes_bl (kp m.kind) fun p hp => ⟨kp_lt.2 p hp, (hf p (kp_lt.2 p hp)).1 hp⟩
  have h2 := kp_bl m.kind
  unfold bodyM
  rw [List.length_append, bodyH_len]
  omega
theorem decP_seal (hw : wrongM m = 0) : decP (sealB (bodyM m)) = (m.bare, 0) := by
  have hl := body_len hw
  have hs : (sealB (bodyM m)).length = (bodyM m).length + 4 := by unfold sealB; rw [List.length_append, fixB_len]
  have ht : (sealB (bodyM m)).take ((sealB (bodyM m)).length - 4) = bodyM m := (seal_inj rfl).symm
  unfold decP
  rw [if_neg (by omega), if_pos ((seal_take (by omega)).1 (by rw [ht])), ht]
  exact dec_of hw
theorem decX_b (l : List UInt8) : (decX l).1.b.length ≤ 16384 := by
  unfold decX
  split
  · rename_i h
    obtain ⟨_, _, hf⟩ := wrong_zero h.2.2
    have h6 := hf 6 (by decide)
    by_cases hm : 6 ∈ kp (rdAll pmax ⟨l, 0, 0⟩).2.kind
    · exact of_decide_eq_true (h6.1 hm)
    · have : (rdAll pmax ⟨l, 0, 0⟩).2.b.length = 0 := of_decide_eq_true (h6.2 hm)
      show (rdAll pmax ⟨l, 0, 0⟩).2.b.length ≤ 16384
      omega
  · exact Nat.zero_le _
theorem decP_b (l : List UInt8) : (decP l).1.b.length ≤ 16384 := by
  unfold decP
  split
  · exact Nat.zero_le _
  split
  · exact decX_b _
  · exact Nat.zero_le _
theorem F_law8_num.is {e : Int} {Q : Int → Heap → Prop} (k : Q e h) : F_law8_num e h Q := by
  rw [F_law8_num.eq_1, F_law8_num_of.eq_1]
  exact k
theorem F_law8_same.isW {a : Sl} {xs : List UInt8} {Q : Bool → Heap → Prop} (O : Sat h0 h L) (U : Us h0) (E : Er h0) (Vx : Stays h0 L fun h => Bytes h a xs ∧ a.len ≤ a.cap) (hx : xs.length < 4611686018427387904) (k : ∀ h', Sat h0 h' L → Q true h') : F_law8_same a h Q := by
  rw [F_law8_same.eq_1, F_law8_same_of.eq_1]
  obtain ⟨d, e, hd⟩ : ∃ d e, decP xs = (d, e) := ⟨_, _, rfl⟩
  have db : d.b.length < 4611686018427387904 := by
    have := decP_b xs
    rw [hd] at this
    have : d.b.length ≤ 16384 := this
    omega
  refine F_message_Decode.isW O U E Vx hx hd fun s1 h O => ?_
  refine O.al fun a1 h O => ?_
  refine O.st 0 rfl (by simp) rfl fun h O => ?_
  dsimp only [List.set] at O
  rw [put_all (by rfl)] at O
  have O : Sat h0 h (own a1 (mgC { d with v := s1 }) :: buf 1 u8 s1 d.b :: L) := O
  refine F_ref8_Decode.isW O (fun h O => Vx h O.drop.drop) hx hd fun s2 h O => ?_
  refine O.al fun a2 h O => ?_
  refine O.st 0 rfl (by simp) rfl fun h O => ?_
  dsimp only [List.set] at O
  rw [put_all (by rfl)] at O
  have O : Sat h0 h (own a2 (mgC { d with v := s2 }) :: buf 1 u8 s2 d.b :: own a1 (mgC { d with v := s1 }) :: buf 1 u8 s1 d.b :: L) := O
  refine jn_go ?_
  refine F_law8_num.is ?_
  refine brr_tt (by simp) ?_
  refine O.ld 2 rfl (mgC_ld ?_)
  refine O.ld 0 rfl (mgC_ld ?_)
  refine F_ref0_EqMsg.is (m := { d with v := s1 }) (n := { d with v := s2 }) O (fun h O => (O.view 3 u8_len (by simp) rfl).1) (fun h O => (O.view 1 u8_len (by simp) rfl).1) db db fun z h O hz => ?_
  rw [hz.2 rfl]
  exact k h O.drop.drop.drop.drop
def bg : Mg := { mgz with kind := 1, frm := 1, to := 2, epoch := 5 }
theorem bg_wrong : wrongM bg = 0 := by decide +kernel
theorem bg_body : bodyM bg = [1, 1, 2, 0, 5] := by
  show fixB 1 1 ++ fixB 1 1 ++ fixB 2 1 ++ fixB 0 1 ++ (varB 5 ++ []) = _
  rw [varB, if_pos (by decide)]
  decide +kernel
theorem bad_seal : decP [1, 1, 2, 0, 5] = (mgz, 82) := by
  unfold decP
  rw [if_neg (by decide), if_neg (by decide +kernel)]
theorem F_law8_begun.is {Q : Bool → Heap → Prop} (O : Sat h0 h L) (U : Us h0) (E : Er h0) (k : ∀ h', Sat h0 h' L → Q true h') : F_law8_begun h Q := by
  rw [F_law8_begun.eq_1, F_law8_begun_of.eq_1]
  have hdg : decP (sealB [1, 1, 2, 0, 5]) = (bg.bare, 0) := by rw [← bg_body]; exact decP_seal bg_wrong
  have hen : encB bg = sealB [1, 1, 2, 0, 5] := by unfold encB; rw [if_pos bg_wrong, bg_body]
  have hsl : (sealB [1, 1, 2, 0, 5]).length = 9 := by unfold sealB; rw [List.length_append, fixB_len]; rfl
  refine O.al fun a1 h O => ?_
  refine O.st 0 rfl (by simp) rfl fun h O => ?_
  dsimp only [List.set] at O
  rw [put_all (by rfl)] at O
  have O : Sat h0 h (own a1 (mgC { bg with v := nilS }) :: L) := O
  refine O.ld 0 rfl (mgC_ld ?_)
  refine F_message_Encode.is (m := bg) O U (fun h O => View.nil) (by intro q hq; show 0 ≤ pget q bg; unfold pget; split <;> decide) fun sE h O => ?_
  rw [bg_wrong]
  rw [hen] at O
  refine O.al fun a29 h O => ?_
  have O : Sat h0 h (own a29 (([1, 1, 2, 0, 5] : List UInt8).flatMap u8) :: buf 1 u8 sE (sealB [1, 1, 2, 0, 5]) :: own a1 (mgC { bg with v := nilS }) :: L) := O
  refine F_ref8_Seal.is (xs := [1, 1, 2, 0, 5]) O (fun h O => O.arr 0 (enc := u8) (xs := [1, 1, 2, 0, 5]) u8_len rfl) (by simp) fun sS h O => ?_
  refine F_message_Decode.is O U E (fun h O => O.view 0 u8_len (by simp) rfl) (by rw [hsl]; omega) hdg fun sV h O => ?_
  refine O.al fun a57 h O => ?_
  refine O.st 0 rfl (by simp) rfl fun h O => ?_
  dsimp only [List.set] at O
  rw [put_all (by rfl)] at O
  have O := O.sel [0, 1, 4, 5] 6 rfl (Nat.le_add_left _ _)
  have O : Sat h0 h (own a57 (mgC { bg with v := sV }) :: buf 1 u8 sV [] :: buf 1 u8 sE (sealB [1, 1, 2, 0, 5]) :: own a1 (mgC { bg with v := nilS }) :: L) := O
  refine O.al fun a60 h O => ?_
  have O : Sat h0 h (own a60 (([1, 1, 2, 0, 5] : List UInt8).flatMap u8) :: own a57 (mgC { bg with v := sV }) :: buf 1 u8 sV [] :: buf 1 u8 sE (sealB [1, 1, 2, 0, 5]) :: own a1 (mgC { bg with v := nilS }) :: L) := O
  refine F_message_Decode.is O U E (fun h O => ⟨O.arr 0 (enc := u8) (xs := [1, 1, 2, 0, 5]) u8_len rfl, Nat.le_refl _⟩) (by simp) bad_seal fun sW h O => ?_
  have O := O.drop.drop
  refine O.al fun a86 h O => ?_
  refine O.st 0 rfl (by simp) rfl fun h O => ?_
  have O := O.drop
  refine jn_go ?_
  refine F_law8_num.is ?_
  refine brr_tt (by decide) ?_
  refine F_law8_num.is ?_
  refine brr_tt (by decide) ?_
  refine O.al fun a94 h O => ?_
  have O : Sat h0 h (own a94 (([1, 1, 2, 0, 5] : List UInt8).flatMap u8) :: own a57 (mgC { bg with v := sV }) :: buf 1 u8 sV [] :: buf 1 u8 sE (sealB [1, 1, 2, 0, 5]) :: own a1 (mgC { bg with v := nilS }) :: L) := O
  refine F_ref8_Seal.is (xs := [1, 1, 2, 0, 5]) O (fun h O => O.arr 0 (enc := u8) (xs := [1, 1, 2, 0, 5]) u8_len rfl) (by simp) fun sT h O => ?_
  refine F_ref0_Eq.is (O.view 4 u8_len (by simp) rfl).1 (O.view 0 u8_len (by simp) rfl).1 (by rw [hsl]; decide) (by rw [hsl]; decide) ?_
  refine brr_tt (by simp) ?_
  have O := O.drop.drop
  refine O.ld 0 rfl (mgC_ld ?_)
  refine O.ld 3 rfl (mgC_ld ?_)
  refine F_ref0_EqMsg.is (m := { bg with v := sV }) (n := { bg with v := nilS }) O (fun h O => (O.view 1 u8_len (by simp) rfl).1) (fun h O => View.nil) (by show (0 : Nat) < _; decide) (by show (0 : Nat) < _; decide) fun z h O hz => ?_
  rw [hz.2 rfl]
  refine brr_tt rfl ?_
  refine F_law8_num.is ?_
  exact k h O.drop.drop.drop.drop
end
end Go.Proofs.YthiginhigfieiaaGreatDoor.V
/- One bit turned: its sum is another. -/
namespace Go.Proofs.YthiginhigfieiaaGreatDoor.V
open Go Go.RowKit
set_option linter.unusedVariables false
set_option linter.unusedSimpArgs false
theorem xor8 (a b : UInt8) : IntKind.u8.wrap (BitVec.ofInt IntKind.u8.bits (a.toNat : Int) ^^^ BitVec.ofInt IntKind.u8.bits (b.toNat : Int)).toNat = ((a ^^^ b).toNat : Int) := by
  have h : ∀ x : UInt8, BitVec.ofInt IntKind.u8.bits (x.toNat : Int) = x.toBitVec := by
    intro x
    show BitVec.ofInt 8 (x.toNat : Int) = x.toBitVec
    apply BitVec.eq_of_toNat_eq
    have := x.toNat_lt
    simp
  rw [h, h]
  have := (a ^^^ b).toNat_lt
  show IntKind.u8.wrap ((a ^^^ b).toNat : Int) = _
  exact wrapu8 (by omega) (by omega)
theorem ofNat_u8_xor (a b : UInt8) : BitVec.ofNat 32 (a ^^^ b).toNat = BitVec.ofNat 32 a.toNat ^^^ BitVec.ofNat 32 b.toNat := by
  rw [UInt8.toNat_xor]
  apply BitVec.eq_of_getLsbD_eq
  intro i hi
  rw [BitVec.getLsbD_xor, BitVec.getLsbD_ofNat, BitVec.getLsbD_ofNat, BitVec.getLsbD_ofNat, Nat.testBit_xor]
  simp [hi]
theorem crcByte_xor (x y : W32) (a b : UInt8) : crcByte (x ^^^ y) (a ^^^ b) = crcByte x a ^^^ crcByte y b := by
  unfold crcByte
  rw [ofNat_u8_xor, ← iter_xor]
  congr 1
  ac_rfl
theorem crcFrom_lin : ∀ (l : List UInt8) (x y : W32), crcFrom (x ^^^ y) l = crcFrom x l ^^^ iter (8 * l.length) y
  | [], _, _ => rfl
  | c :: l, x, y => by
    show crcFrom (crcByte (x ^^^ y) c) l = crcFrom (crcByte x c) l ^^^ _
    have e : crcByte (x ^^^ y) c = crcByte x c ^^^ iter 8 y := by
      unfold crcByte
      rw [← iter_xor]
      congr 1
      ac_rfl
    rw [e, crcFrom_lin l, ← iter_add]
    congr 2
theorem one_bit : ∀ k : Fin 8, crcByte 0#32 (UInt8.ofNat (2 ^ k.val)) = iter (8 - k.val) e0 := by decide +kernel
theorem crc_flip : ∀ (l : List UInt8) (j k : Nat) (c : UInt8) (n : W32), l[j]? = some c → k < 8 → crcFrom n (l.set j (c ^^^ UInt8.ofNat (2 ^ k))) = crcFrom n l ^^^ iter (8 * l.length - (8 * j + k)) e0
  | [], j, k, c, n, h, _ => by simp at h
  | d :: l, 0, k, c, n, h, hk => by
    simp at h; subst h
    show crcFrom (crcByte n (d ^^^ UInt8.ofNat (2 ^ k))) l = crcFrom (crcByte n d) l ^^^ _
    have e : crcByte n (d ^^^ UInt8.ofNat (2 ^ k)) = crcByte n d ^^^ crcByte 0#32 (UInt8.ofNat (2 ^ k)) := by
      have := crcByte_xor n 0#32 d (UInt8.ofNat (2 ^ k))
      rwa [BitVec.xor_zero] at this
    have h1 := one_bit ⟨k, hk⟩
    simp only at h1
    rw [e, h1, crcFrom_lin, ← iter_add]
    congr 2
    rw [List.length_cons]
    omega
  | d :: l, j + 1, k, c, n, h, hk => by
    rw [List.set_cons_succ]
    show crcFrom (crcByte n d) (l.set j (c ^^^ UInt8.ofNat (2 ^ k))) = crcFrom (crcByte n d) l ^^^ _
    rw [crc_flip l j k c _ (by simpa using h) hk]
    congr 2
    rw [List.length_cons]
    omega
theorem not_inj {x y : W32} : (~~~ x = ~~~ y) ↔ x = y := by
  constructor
  · intro h
    have := congrArg (~~~ ·) h
    simpa using this
  · intro h; rw [h]
theorem xor_ne {x y : W32} : (x ^^^ y = x) ↔ y = 0#32 := by
  constructor
  · intro h
    have := congrArg (x ^^^ ·) h
    simpa [← BitVec.xor_assoc] using this
  · intro h; rw [h]; simp
theorem mask8 {i : Int} (h0 : 0 ≤ i) : IntKind.u8.wrap (1 * 2 ^ min (IntKind.u64.wrap (i.tmod 8)).toNat IntKind.u8.bits) = ((UInt8.ofNat (2 ^ (i.toNat % 8))).toNat : Int) := by
  rw [Int.tmod_eq_emod_of_nonneg h0, wrapu64 (by omega) (by omega)]
  have h8 : (i % 8).toNat = i.toNat % 8 := by omega
  have hk : i.toNat % 8 < 8 := Nat.mod_lt _ (by decide)
  rw [h8]
  generalize i.toNat % 8 = k at *
  have : ∀ k : Fin 8, IntKind.u8.wrap (1 * 2 ^ min k.val IntKind.u8.bits) = ((UInt8.ofNat (2 ^ k.val)).toNat : Int) := by decide
  exact this ⟨k, hk⟩
def flipU (l : List UInt8) (i : Nat) : List UInt8 := match l[i / 8]? with
  | some c => l.set (i / 8) (c ^^^ UInt8.ofNat (2 ^ (i % 8)))
  | none => l
theorem flipU_len (l : List UInt8) (i : Nat) : (flipU l i).length = l.length := by unfold flipU; split <;> simp
theorem flipU_crc (l : List UInt8) (i : Nat) (hi : i < 8 * l.length) (n : W32) : crcFrom n (flipU l i) = crcFrom n l ^^^ iter (8 * l.length - i) e0 := by
  unfold flipU
  rw [List.getElem?_eq_getElem (by omega : i / 8 < l.length)]
  simp only
  rw [crc_flip l (i / 8) (i % 8) _ n (List.getElem?_eq_getElem (by omega)) (Nat.mod_lt _ (by decide))]
  congr 2
  omega
section
variable {h0 h : Heap} {L : List Res}
theorem flip_step {s : Sl} {l : List UInt8} {i : Int} {K : Heap → Prop} (O : Sat h0 h (buf 1 u8 s l :: L)) (h0i : 0 ≤ i) (hi : i < 8 * l.length) (hl : l.length ≤ 281474976710656)
    (k : ∀ h', Sat h0 h' (buf 1 u8 s (flipU l i.toNat) :: L) → K h') :
    (8 : Int) ≠ 0 ∧ (8 : Int) ≠ 0 ∧ ixS 1 s (IntKind.i64.wrap (i.tdiv 8)) fun a39 => ld [.int .u8] a39 h fun v40 => (8 : Int) ≠ 0 ∧ 0 ≤ (IntKind.u64.wrap (i.tmod 8)) ∧ ixS 1 s (IntKind.i64.wrap (i.tdiv 8)) fun a41 =>
      st a41 [.int .u8 (IntKind.u8.wrap (BitVec.ofInt IntKind.u8.bits v40 ^^^ BitVec.ofInt IntKind.u8.bits (IntKind.u8.wrap (1 * 2 ^ min (IntKind.u64.wrap (i.tmod 8)).toNat IntKind.u8.bits))).toNat)] h K := by
  have e : IntKind.i64.wrap (i.tdiv 8) = i / 8 := by
    rw [Int.tdiv_eq_ediv_of_nonneg h0i, wrap64 (by omega) (by omega)]
  rw [e]
  refine ⟨by decide, by decide, ?_⟩
  refine Bytes.at (O.view 0 u8_len (by simp) rfl).1 (by omega) (by omega) fun c hc => ?_
  refine ⟨by decide, by rw [Int.tmod_eq_emod_of_nonneg h0i, wrapu64 (by omega) (by omega)]; omega, ?_⟩
  rw [mask8 h0i, xor8]
  refine O.put1 u8_len u8_one (by omega) (by omega) (c ^^^ UInt8.ofNat (2 ^ (i.toNat % 8))) rfl fun h' O => k h' ?_
  have e2 : (i / 8).toNat = i.toNat / 8 := by omega
  unfold flipU
  rw [← e2, hc]
  exact O
end
end Go.Proofs.YthiginhigfieiaaGreatDoor.V
/- The uses of each kind as the row lists them. -/
namespace Go.Proofs.YthiginhigfieiaaGreatDoor.V
open Go Go.RowKit
set_option linter.unusedVariables false
set_option linter.unusedSimpArgs false
section
variable {P : Program} {W : World}
abbrev trodL (P : Program) (W : World) := DataW.trod (fun _ : TypeId × Value => ()) P W 0 (fun _ => true) false
theorem trod_ints {fuel : Nat} {t e : TypeId} {cs : List Value} {ps : List MemPlace} {d : DataW Unit} (ht : P.underlying t = some (.slice e)) (he : P.underlying e = some (.int .i64)) (hce : P.cellsOf e = 1) (h : trodL P W fuel t cs = some (d, ps)) {fs : List Nat} (h0 : fs = [] → d = .nil) (h1 : fs ≠ [] → d = .slice (fs.map fun (f : Nat) => .lit (.int .i64 (f : Int))) []) : ∃ s : Sl, cs = [.slice s.ptr s.len s.cap] ∧ View W.heap 1 (En usC) s fs := by
  rcases DataW.trod_slice ht h with ⟨rfl, hx⟩ | ⟨a, len, cap, elems, rest, n, _, rfl, hx, _, _, _, hlen, hel, _, _⟩
  · have hd : d = .nil := congrArg Prod.fst hx
    have hf : fs = [] := Decidable.byContradiction fun g => by
      rw [h1 g] at hd
      cases hd
    subst hf
    exact ⟨⟨none, 0, 0⟩, rfl, View.nil⟩
  · have hd : d = .slice (elems.map (·.1)) (rest.map (·.1)) := congrArg Prod.fst hx
    have hf : fs ≠ [] := fun g => by
      rw [h0 g] at hd
      cases hd
    rw [h1 hf] at hd
    have h3 : (fs.map fun (f : Nat) => (.lit (.int .i64 (f : Int)) : DataW Unit)) = elems.map (·.1) := by
      injection hd
    have hfl : len = fs.length := by
      have := congrArg List.length h3
      simp at this
      omega
    refine ⟨⟨some a, len, cap⟩, rfl, hfl, fun i f hi => ?_⟩
    have hil : i < fs.length := (List.getElem?_eq_some_iff.1 hi).1
    have hy := hel i (by omega)
    have hex : elems[i]? = some (elems[i]'(by omega)) := List.getElem?_eq_getElem (by omega)
    generalize elems[i]'(by omega) = y at hex
    rw [hex] at hy
    replace hy := bind_some hy; obtain ⟨c, hc, hy⟩ := hy
    obtain ⟨z, ec, ey, _⟩ := DataW.trod_int he hy
    obtain ⟨hl, ha⟩ := cells_are hc
    have e2 : (elems.map (·.1))[i]? = some y.1 := by rw [List.getElem?_map, hex]; rfl
    rw [← h3, List.getElem?_map, hi] at e2
    simp only [Option.map_some, Option.some.injEq] at e2
    rw [ey] at e2
    simp only [DataW.lit.injEq, Lit.int.injEq, true_and] at e2
    refine ⟨a, c, rfl, ?_, ?_, ?_⟩
    · rw [ec]; rfl
    · rw [ec, ← e2]; rfl
    · rw [hce] at ha
      exact ha
def useD (k : Nat) : DataW Unit := if usN k = [] then .nil else .slice ((usN k).map fun (f : Nat) => .lit (.int .i64 (f : Int))) []
theorem us_of {n1 n2 : String} {d1 : DataW Unit} {g : Nat} {t s e : TypeId} (hg : P.globalNamed n2 = some g) (hty : (P.globals[g]?).map (·.type) = some t) (ht : P.underlying t = some (.array 12 s)) (hs : P.underlying s = some (.slice e)) (he : P.underlying e = some (.int .i64)) (hcs : P.cellsOf s = 1) (hce : P.cellsOf e = 1) (hb : g = 0) (h : laidMet P [(n1, d1), (n2, .agg ((List.range 12).map useD))] W) : Us W.heap := by
  obtain ⟨ps, ⟨_, _, _, _, _, _, _, _, _, _, ⟨g', t', cs, fuel, p, q, hg', ht', hvar, hd, _, _⟩, _⟩, _⟩ := h
  obtain rfl := Option.some.inj (hg.symm.trans hg')
  obtain rfl := Option.some.inj (hty.symm.trans ht')
  cases fuel with
  | zero => simp [DataW.trod] at hd
  | succ n =>
    unfold DataW.trod at hd
    rw [ht] at hd
    simp only [hcs, Nat.mul_one] at hd
    split at hd
    · replace hd := map_some' hd; obtain ⟨xs, hx, hd⟩ := hd
      obtain ⟨lx, gx⟩ := mapM_at hx
      have hx2 : xs.map (·.1) = (List.range 12).map useD := by
        have := congrArg Prod.fst hd
        simpa using this
      refine ⟨fun k hk => ?_⟩
      obtain ⟨y, hy, hyi⟩ := gx k k (by simp [hk])
      have e2 : (xs.map (·.1))[k]? = some y.1 := by rw [List.getElem?_map, hyi]; rfl
      rw [hx2, List.getElem?_map, List.getElem?_range hk] at e2
      simp only [Option.map_some, Option.some.injEq] at e2
      obtain ⟨u, hu, V⟩ := trod_ints (d := y.1) (ps := y.2) (fs := usN k) hs he hce hy (fun h => by rw [← e2]; unfold useD; rw [if_pos h]) (fun h => by rw [← e2]; unfold useD; rw [if_neg h])
      refine ⟨u, ?_, V⟩
      have hc : cs.toList[k]? = some (.slice u.ptr u.len u.cap) := by
        have := congrArg (·[0]?) hu
        simpa [List.getElem?_take, List.getElem?_drop] using this
      have hcell := World.var?_cell hg hvar k
      have h3 : W.cell? ⟨g, k, none⟩ = some (.slice u.ptr u.len u.cap) := by rw [hcell]; simpa using hc
      subst hb
      exact ⟨h3, trivial⟩
    · cases hd
end
end Go.Proofs.YthiginhigfieiaaGreatDoor.V
namespace Go.Proofs.YthiginhigfieiaaGreatDoor.V
open Go Go.RowKit
set_option linter.unusedVariables false
set_option maxRecDepth 100000
def F_law8_MessageTurned_of (f7_ : Y27) (f10_ : Y21) (f11_ : Y12) (f16_ : Y17) (f26_ : Y7) (f27_ : Y38) (t1 t2 t3 t4 t5 t6 t7 t8 t9 t10 : Int) (t11 : Sl) (t12 t13 : Int) (t14 t15 : ByteArray) (t16 t17 t18 t19 t20 t21 t22 t23 t24 : Int) (t25 : Sl) (h : Heap) (Q : Bool → Heap → Prop) : Prop :=
  al 76 [.int .i64 t1, .int .i64 t2, .int .i64 t3, .int .i64 t4, .int .u64 t5, .int .u64 t6, .int .u64 t7, .int .u64 t8, .int .i64 t9, .int .u64 t10, .slice t11.ptr t11.len t11.cap, .int .i64 t12, .int .u64 t13, .string t14, .string t15, .int .u64 t16, .int .u64 t17, .int .u64 t18, .int .i64 t19, .int .i64 t20, .int .i64 t21, .int .i64 t22, .int .i64 t23, .int .i64 t24, .slice t25.ptr t25.len t25.cap] h fun (a26 : Addr) (h27 : Heap) =>
  f7_ h27 fun (r28 : Bool) (h29 : Heap) =>
  brr (!r28)
  (Q false h29)
  (ld K22 (a26.add 0) h29 fun (v30 v31 v32 v33 v34 v35 v36 v37 v38 v39 : Int) (v40 : Sl) (v41 v42 : Int) (v43 v44 : ByteArray) (v45 v46 v47 v48 v49 v50 v51 : Int) =>
  f10_ v30 v31 v32 v33 v34 v35 v36 v37 v38 v39 v40 v41 v42 v43 v44 v45 v46 v47 v48 v49 v50 v51 h29 fun (r52 : Sl) (r53 : Int) (h54 : Heap) =>
  brr (r53 != 0)
  (f7_ h54 fun (r55 : Bool) (h56 : Heap) =>
  Q r55 h56)
  (ld [.int .i64] (a26.add 22) h54 fun (v57 : Int) =>
  (IntKind.i64.wrap (8 * ((r52.len : Nat) : Int))) ≠ 0 ∧
  f26_ r52 h54 fun (r58 : Sl) (h59 : Heap) =>
  (8 : Int) ≠ 0 ∧
  (8 : Int) ≠ 0 ∧
  ixS 1 r58 (IntKind.i64.wrap (((IntKind.i64.wrap (BitVec.ofInt IntKind.i64.bits v57 &&& BitVec.ofInt IntKind.i64.bits 16777215).toNat).tmod (IntKind.i64.wrap (8 * ((r52.len : Nat) : Int)))).tdiv 8)) fun (a60 : Addr) =>
  ld [.int .u8] a60 h59 fun (v61 : Int) =>
  (8 : Int) ≠ 0 ∧
  0 ≤ (IntKind.u64.wrap (((IntKind.i64.wrap (BitVec.ofInt IntKind.i64.bits v57 &&& BitVec.ofInt IntKind.i64.bits 16777215).toNat).tmod (IntKind.i64.wrap (8 * ((r52.len : Nat) : Int)))).tmod 8)) ∧
  ixS 1 r58 (IntKind.i64.wrap (((IntKind.i64.wrap (BitVec.ofInt IntKind.i64.bits v57 &&& BitVec.ofInt IntKind.i64.bits 16777215).toNat).tmod (IntKind.i64.wrap (8 * ((r52.len : Nat) : Int)))).tdiv 8)) fun (a62 : Addr) =>
  st a62 [.int .u8 (IntKind.u8.wrap (BitVec.ofInt IntKind.u8.bits v61 ^^^ BitVec.ofInt IntKind.u8.bits (IntKind.u8.wrap (1 * 2 ^ min (IntKind.u64.wrap (((IntKind.i64.wrap (BitVec.ofInt IntKind.i64.bits v57 &&& BitVec.ofInt IntKind.i64.bits 16777215).toNat).tmod (IntKind.i64.wrap (8 * ((r52.len : Nat) : Int)))).tmod 8)).toNat IntKind.u8.bits))).toNat)] h59 fun (h63 : Heap) =>
  f16_ r58 h63 fun (r64 r65 r66 r67 r68 r69 r70 r71 r72 r73 : Int) (r74 : Sl) (r75 r76 : Int) (r77 r78 : ByteArray) (r79 r80 r81 r82 r83 r84 r85 r86 : Int) (h87 : Heap) =>
  al 52 [.int .i64 0, .int .i64 0, .int .i64 0, .int .i64 0, .int .u64 0, .int .u64 0, .int .u64 0, .int .u64 0, .int .i64 0, .int .u64 0, .slice none 0 0, .int .i64 0, .int .u64 0, .string (⟨#[]⟩ : ByteArray), .string (⟨#[]⟩ : ByteArray), .int .u64 0, .int .u64 0, .int .u64 0, .int .i64 0, .int .i64 0, .int .i64 0, .int .i64 0] h87 fun (a88 : Addr) (h89 : Heap) =>
  st a88 [.int .i64 r64, .int .i64 r65, .int .i64 r66, .int .i64 r67, .int .u64 r68, .int .u64 r69, .int .u64 r70, .int .u64 r71, .int .i64 r72, .int .u64 r73, .slice r74.ptr r74.len r74.cap, .int .i64 r75, .int .u64 r76, .string r77, .string r78, .int .u64 r79, .int .u64 r80, .int .u64 r81, .int .i64 r82, .int .i64 r83, .int .i64 r84, .int .i64 r85] h89 fun (h90 : Heap) =>
  f11_ r86 h90 fun (r91 : Int) (h92 : Heap) =>
  brr (r91 != 82)
  (Q false h92)
  (ld [.int .i64] (a26.add 23) h92 fun (v93 : Int) =>
  ((r52.len : Nat) : Int) ≠ 0 ∧
  slTo r52 ((IntKind.i64.wrap (BitVec.ofInt IntKind.i64.bits v93 &&& BitVec.ofInt IntKind.i64.bits 16777215).toNat).tmod ((r52.len : Nat) : Int)) fun (s94 : Sl) =>
  f26_ s94 h92 fun (r95 : Sl) (h96 : Heap) =>
  ld [.sl] (a26.add 24) h96 fun (v97 : Sl) =>
  f26_ r52 h96 fun (r98 : Sl) (h99 : Heap) =>
  cellsAre h99 (a26.add 24) [.slice v97.ptr v97.len v97.cap] ∧
  app 5 1 1 (.int .u8 0) r98 v97.ptr v97.len h99 fun (s100 : Sl) (h101 : Heap) =>
  jn [(2, .one .bool)] (fun (x109 : Bool) (h110 : Heap) =>
  Q x109 h110) (fun (j102 : Bool → Heap → Prop) =>
  f27_ r95 h101 fun (r103 : Bool) (h104 : Heap) =>
  brr r103
  (f27_ s100 h104 fun (r105 : Bool) (h106 : Heap) =>
  brr r105
  (f7_ h106 fun (r107 : Bool) (h108 : Heap) =>
  j102 r107 h108)
  (j102 false h106))
  (j102 false h104)))))
def F_law8_MessageTurned (t1 t2 t3 t4 t5 t6 t7 t8 t9 t10 : Int) (t11 : Sl) (t12 t13 : Int) (t14 t15 : ByteArray) (t16 t17 t18 t19 t20 t21 t22 t23 t24 : Int) (t25 : Sl) (h : Heap) (Q : Bool → Heap → Prop) : Prop := F_law8_MessageTurned_of F_law8_begun F_ref8_Encode F_law8_num F_message_Decode F_ref0_Copy F_law8_same t1 t2 t3 t4 t5 t6 t7 t8 t9 t10 t11 t12 t13 t14 t15 t16 t17 t18 t19 t20 t21 t22 t23 t24 t25 h Q
def plan6 : Plan := .s (.r [1]) (.s (.s (.r [1, 13]) (.c (.s (.r [2]) .z) .z)) (.s (.r [1, 3, 4]) (.s (.s (.r [1, 3, 21]) (.c (.s (.r [2]) .z) .z)) (.s (.r [1, 3, 5]) (.s (.r [1, 3, 5, 6]) (.s (.r [1, 3, 6]) (.s (.r [1, 3, 8]) (.s (.s (.r [1, 3, 53]) (.c (.s (.r [2]) .z) .z)) (.s (.r [1, 3, 9]) (.s (.r [1, 3, 10]) (.s (.d [0, 1, 0, 4, 15, 31] [[0, 2, 3, 1, 4, 5]] [10, 11]) (.s (.rj [(2, .one .bool)] []) .z))))))))))))
theorem F_law8_MessageTurned.eq (f7_ : Y27) (f10_ : Y21) (f11_ : Y12) (f16_ : Y17) (f26_ : Y7) (f27_ : Y38) (t1 t2 t3 t4 t5 t6 t7 t8 t9 t10 : Int) (t11 : Sl) (t12 t13 : Int) (t14 t15 : ByteArray) (t16 t17 t18 t19 t20 t21 t22 t23 t24 : Int) (t25 : Sl) (h : Heap) (K : YV) : F_law8_MessageTurned_of f7_ f10_ f11_ f16_ f26_ f27_ t1 t2 t3 t4 t5 t6 t7 t8 t9 t10 t11 t12 t13 t14 t15 t16 t17 t18 t19 t20 t21 t22 t23 t24 t25 h (fun (r0 : Bool) (h : Heap) => K (.bool r0) h) =
    den Tryz.prog (fn1 7 (E_law8_begun_of f7_) (fn1 10 (E_ref8_Encode_of f10_) (fn1 11 (E_law8_num_of f11_) (fn1 16 (E_message_Decode_of f16_) (fn1 26 (E_ref0_Copy_of f26_) (fn1 27 (E_law8_same_of f27_) noFns)))))) Tryz.f6.ntmps plan6 (bodyOf Tryz.f6) (args0 0 [(.agg #[.int .i64 t1, .int .i64 t2, .int .i64 t3, .int .i64 t4, .int .u64 t5, .int .u64 t6, .int .u64 t7, .int .u64 t8, .int .i64 t9, .int .u64 t10, .slice t11.ptr t11.len t11.cap, .int .i64 t12, .int .u64 t13, .string t14, .string t15, .int .u64 t16, .int .u64 t17, .int .u64 t18, .int .i64 t19, .int .i64 t20, .int .i64 t21, .int .i64 t22, .int .i64 t23, .int .i64 t24, .slice t25.ptr t25.len t25.cap] : Value)]) h (konF Tryz.f6 K) := by kernel_rfl
def E_law8_MessageTurned_of (f : Y39) : List Value → Heap → YV → Prop
  | [v0], h, K => vAgg v0 fun cs0 => decs [.int .i64, .int .i64, .int .i64, .int .i64, .int .u64, .int .u64, .int .u64, .int .u64, .int .i64, .int .u64, .sl, .int .i64, .int .u64, .str, .str, .int .u64, .int .u64, .int .u64, .int .i64, .int .i64, .int .i64, .int .i64, .int .i64, .int .i64, .sl] cs0.toList fun (t1 t2 t3 t4 t5 t6 t7 t8 t9 t10 : Int) (t11 : Sl) (t12 t13 : Int) (t14 t15 : ByteArray) (t16 t17 t18 t19 t20 t21 t22 t23 t24 : Int) (t25 : Sl) =>
  f t1 t2 t3 t4 t5 t6 t7 t8 t9 t10 t11 t12 t13 t14 t15 t16 t17 t18 t19 t20 t21 t22 t23 t24 t25 h (fun (r0 : Bool) (h : Heap) => K (.bool r0) h)
  | _, _, _ => False
abbrev E_law8_MessageTurned := E_law8_MessageTurned_of F_law8_MessageTurned
theorem E_law8_MessageTurned.at (f : Y39) (t1 t2 t3 t4 t5 t6 t7 t8 t9 t10 : Int) (t11 : Sl) (t12 t13 : Int) (t14 t15 : ByteArray) (t16 t17 t18 t19 t20 t21 t22 t23 t24 : Int) (t25 : Sl) (h : Heap) (K : YV) : E_law8_MessageTurned_of f [.agg ([.int .i64 t1, .int .i64 t2, .int .i64 t3, .int .i64 t4, .int .u64 t5, .int .u64 t6, .int .u64 t7, .int .u64 t8, .int .i64 t9, .int .u64 t10, .slice t11.ptr t11.len t11.cap, .int .i64 t12, .int .u64 t13, .string t14, .string t15, .int .u64 t16, .int .u64 t17, .int .u64 t18, .int .i64 t19, .int .i64 t20, .int .i64 t21, .int .i64 t22, .int .i64 t23, .int .i64 t24, .slice t25.ptr t25.len t25.cap] : List Value).toArray] h K = f t1 t2 t3 t4 t5 t6 t7 t8 t9 t10 t11 t12 t13 t14 t15 t16 t17 t18 t19 t20 t21 t22 t23 t24 t25 h (fun (r0 : Bool) (h : Heap) => K (.bool r0) h) := rfl
theorem E_law8_MessageTurned.right : IsRight Tryz.prog 6 E_law8_MessageTurned := by
  refine isRight fun vs K w hh => ?_
  match vs, hh with
  | [v0], hh =>
    unfold E_law8_MessageTurned E_law8_MessageTurned_of at hh
    replace hh := vAgg_sound hh; obtain ⟨cs0, rfl, hh⟩ := hh
    replace hh := decs_cons hh; obtain ⟨t1, l0_0, e0_0, hh⟩ := hh
    replace hh := decs_cons hh; obtain ⟨t2, l0_1, e0_1, hh⟩ := hh
    replace hh := decs_cons hh; obtain ⟨t3, l0_2, e0_2, hh⟩ := hh
    replace hh := decs_cons hh; obtain ⟨t4, l0_3, e0_3, hh⟩ := hh
    replace hh := decs_cons hh; obtain ⟨t5, l0_4, e0_4, hh⟩ := hh
    replace hh := decs_cons hh; obtain ⟨t6, l0_5, e0_5, hh⟩ := hh
    replace hh := decs_cons hh; obtain ⟨t7, l0_6, e0_6, hh⟩ := hh
    replace hh := decs_cons hh; obtain ⟨t8, l0_7, e0_7, hh⟩ := hh
    replace hh := decs_cons hh; obtain ⟨t9, l0_8, e0_8, hh⟩ := hh
    replace hh := decs_cons hh; obtain ⟨t10, l0_9, e0_9, hh⟩ := hh
    replace hh := decs_cons hh; obtain ⟨t11, l0_10, e0_10, hh⟩ := hh
    replace hh := decs_cons hh; obtain ⟨t12, l0_11, e0_11, hh⟩ := hh
    replace hh := decs_cons hh; obtain ⟨t13, l0_12, e0_12, hh⟩ := hh
    replace hh := decs_cons hh; obtain ⟨t14, l0_13, e0_13, hh⟩ := hh
    replace hh := decs_cons hh; obtain ⟨t15, l0_14, e0_14, hh⟩ := hh
    replace hh := decs_cons hh; obtain ⟨t16, l0_15, e0_15, hh⟩ := hh
    replace hh := decs_cons hh; obtain ⟨t17, l0_16, e0_16, hh⟩ := hh
    replace hh := decs_cons hh; obtain ⟨t18, l0_17, e0_17, hh⟩ := hh
    replace hh := decs_cons hh; obtain ⟨t19, l0_18, e0_18, hh⟩ := hh
    replace hh := decs_cons hh; obtain ⟨t20, l0_19, e0_19, hh⟩ := hh
    replace hh := decs_cons hh; obtain ⟨t21, l0_20, e0_20, hh⟩ := hh
    replace hh := decs_cons hh; obtain ⟨t22, l0_21, e0_21, hh⟩ := hh
    replace hh := decs_cons hh; obtain ⟨t23, l0_22, e0_22, hh⟩ := hh
    replace hh := decs_cons hh; obtain ⟨t24, l0_23, e0_23, hh⟩ := hh
    replace hh := decs_cons hh; obtain ⟨t25, l0_24, e0_24, hh⟩ := hh
    replace hh := decs_nil hh; obtain ⟨rfl, hh⟩ := hh
    subst e0_24
    subst e0_23
    subst e0_22
    subst e0_21
    subst e0_20
    subst e0_19
    subst e0_18
    subst e0_17
    subst e0_16
    subst e0_15
    subst e0_14
    subst e0_13
    subst e0_12
    subst e0_11
    subst e0_10
    subst e0_9
    subst e0_8
    subst e0_7
    subst e0_6
    subst e0_5
    subst e0_4
    subst e0_3
    subst e0_2
    subst e0_1
    have ec0 := toArray_eq e0_0
    subst ec0
    unfold F_law8_MessageTurned at hh
    exact calls_den (fn1_right ok7 E_law8_begun.right (fn1_right ok10 E_ref8_Encode.right (fn1_right ok11 E_law8_num.right (fn1_right ok16 E_message_Decode.right (fn1_right ok26 E_ref0_Copy.right (fn1_right ok27 E_law8_same.right noFns_right)))))) plan6 _ w K Tryz.func6 (by kernel_rfl) (by kernel_rfl) (Eq.mp (F_law8_MessageTurned.eq F_law8_begun F_ref8_Encode F_law8_num F_message_Decode F_ref0_Copy F_law8_same t1 t2 t3 t4 t5 t6 t7 t8 t9 t10 t11 t12 t13 t14 t15 t16 t17 t18 t19 t20 t21 t22 t23 t24 t25 w.heap K) hh)
end Go.Proofs.YthiginhigfieiaaGreatDoor.V
/- A message with one bit turned: what MessageTurned plays. -/
namespace Go.Proofs.YthiginhigfieiaaGreatDoor.V
open Go Go.RowKit
set_option linter.unusedVariables false
set_option linter.unusedSimpArgs false
abbrev tyB : Ty := .sl 1 1 (.int .u8)
abbrev tyMsg : Ty := .cons (.cons (.int .i64) (.cons (.int .i64) (.cons (.int .i64) (.cons (.int .i64) .nil)))) (.cons (.int .u64) (.cons (.cons (.int .u64) (.cons (.int .u64) .nil)) (.cons (.int .u64) (.cons (.int .i64) (.cons (.int .u64) (.cons tyB (.cons (.int .i64) (.cons (.int .u64) (.cons .str (.cons .str (.cons (.int .u64) (.cons (.cons (.int .u64) (.cons (.int .u64) .nil)) (.cons (.int .i64) (.cons (.int .i64) (.cons (.int .i64) (.cons (.int .i64) .nil))))))))))))))))
abbrev tyTurn : Ty := .cons tyMsg (.cons (.int .i64) (.cons (.int .i64) (.cons tyB .nil)))
theorem flip_crc_ne {l : List UInt8} {i : Nat} (hi : i < 8 * l.length) : crc (flipU l i) ≠ crc l := by
  unfold crc
  rw [Ne, not_inj, flipU_crc l i hi, xor_ne]
  intro e
  exact absurd (iter_inj0 _ e) (by decide)
theorem flip_ne {l : List UInt8} {i : Nat} (hi : i < 8 * l.length) : flipU l i ≠ l := fun e => flip_crc_ne hi (by rw [e])
theorem flip_left {a b : List UInt8} {i : Nat} (hi : i < 8 * a.length) : flipU (a ++ b) i = flipU a i ++ b := by
  unfold flipU
  rw [List.getElem?_append_left (by omega), List.getElem?_eq_getElem (by omega : i / 8 < a.length)]
  simp only
  rw [List.set_append_left _ _ (by omega)]
theorem flip_right {a b : List UInt8} {i : Nat} (hi : 8 * a.length ≤ i) : flipU (a ++ b) i = a ++ flipU b (i - 8 * a.length) := by
  unfold flipU
  rw [List.getElem?_append_right (by omega), show (i - 8 * a.length) / 8 = i / 8 - a.length by omega, show (i - 8 * a.length) % 8 = i % 8 by omega]
  split
  · rw [List.set_append_right _ _ (by omega)]
  · rfl
theorem decP_flip {ys : List UInt8} {i : Nat} (hy : ys.length ≤ 16990) (hi : i < 8 * (sealB ys).length) : decP (flipU (sealB ys) i) = (mgz, 82) := by
  have hs : (sealB ys).length = ys.length + 4 := by unfold sealB; rw [List.length_append, fixB_len]
  have hl := flipU_len (sealB ys) i
  have hlt := (crc ys).isLt
  unfold decP
  rw [if_neg (by omega), hl, hs, Nat.add_sub_cancel]
  rw [if_neg]
  unfold sealB at *
  by_cases h : i < 8 * ys.length
  · rw [flip_left h, ← flipU_len ys i, List.take_left, List.drop_left, beN_fixB 4 _ (by omega)]
    intro e
    exact flip_crc_ne h (BitVec.eq_of_toNat_eq e).symm
  · rw [flip_right (by omega), List.take_left, List.drop_left]
    intro e
    have hf : i - 8 * ys.length < 8 * (fixB (crc ys).toNat 4).length := by rw [fixB_len]; omega
    have h4 : (flipU (fixB (crc ys).toNat 4) (i - 8 * ys.length)).length = 4 := by rw [flipU_len, fixB_len]
    have := fixB_beN 4 _ h4
    rw [e] at this
    exact flip_ne hf this.symm
theorem and24 (v : Int) : ∃ n : Nat, n < 16777216 ∧ IntKind.i64.wrap (BitVec.ofInt IntKind.i64.bits v &&& BitVec.ofInt IntKind.i64.bits 16777215).toNat = (n : Int) := by
  have h : (BitVec.ofInt IntKind.i64.bits v &&& BitVec.ofInt IntKind.i64.bits 16777215).toNat ≤ 16777215 := by
    rw [BitVec.toNat_and]
    exact Nat.and_le_right
  exact ⟨(BitVec.ofInt IntKind.i64.bits v &&& BitVec.ofInt IntKind.i64.bits 16777215).toNat, by omega, wrap64 (by omega) (by omega)⟩
theorem Sat.app_bufW {α : Type} {h0 h : Heap} {L : List Res} {sz bts T : Nat} {enc : α → List Value} {s : Sl} {xs : List α} {z : Value} {src : Option Addr} {m : Nat} {K : Sl → Heap → Prop} (O : Sat h0 h (buf sz enc s xs :: L))
    (he : ∀ x, (enc x).length = sz) (ho : ∀ x, (enc x).all oneV = true) (hz : z.cells.size = sz) {ys : List α} (hm : m = ys.length) (hr : rdP h src (m * sz) = some (ys.flatMap enc)) (hb : (xs.length + ys.length + (xs.length + ys.length) / 4 + 192) * bts ≤ 281474976710656)
    (k : ∀ s' h', Sat h0 h' (buf sz enc s' (xs ++ ys) :: L) → s'.len = xs.length + ys.length → K s' h') : V.app T sz bts z s src m h K := by
  obtain ⟨sp, O⟩ := O.ex
  obtain ⟨E, ⟨E1, E2, p, hA, h2⟩, O⟩ := O
  have O := O.perm p.symm
  subst hm
  have hall : (ys.flatMap enc).all oneV = true := by simp only [List.all_eq_true, List.mem_flatMap]; rintro v ⟨x, _, hv⟩; exact List.all_eq_true.1 (ho x) v hv
  have hly : (ys.flatMap enc).length = ys.length * sz := flatMap_len he ys
  have hlx : (xs.flatMap enc).length = xs.length * sz := flatMap_len he xs
  have fresh : ∀ c, xs.length + ys.length ≤ c → Sat h0 (h.push (.cells (xs.flatMap enc ++ ys.flatMap enc ++ (Builtin.zeroCells z.cells (c - (xs.length + ys.length))).toList).toArray T)) (buf sz enc ⟨some (pt h.size 0), xs.length + ys.length, c⟩ (xs ++ ys) :: L) := by
    intro c hc
    have O' := (O.sub (List.sublist_append_right E1 E2)).push (xs.flatMap enc ++ ys.flatMap enc ++ (Builtin.zeroCells z.cells (c - (xs.length + ys.length))).toList) T (0, 0) (.inl rfl)
    refine ⟨_, ⟨[(h.size, .inl ((xs ++ ys).flatMap enc ++ (Builtin.zeroCells z.cells (c - (xs.length + ys.length))).toList))], E2, List.Perm.refl _, ⟨(Builtin.zeroCells z.cells (c - (xs.length + ys.length))).toList, .inr ⟨h.size, c - (xs.length + ys.length), ?_, ?_, rfl⟩⟩, h2⟩, ?_⟩
    · simp; omega
    · simp [Builtin.zeroCells, hz]
    · rw [List.flatMap_append]; exact O'
  refine ⟨_, hr, fun hcap => ?_, fun hcap => ⟨growslice_fits_wide (by exact hcap) (by
    rcases hA with ⟨rfl, rfl, rfl, rfl⟩ | ⟨b, j, rfl, hsp, rfl⟩ <;> simpa using hb), ?_⟩⟩
  · rcases hA with ⟨rfl, rfl, rfl, rfl⟩ | ⟨b, j, rfl, hsp, rfl⟩
    · simp at hcap
      subst hcap
      refine k _ _ ⟨E2, ⟨[], E2, List.Perm.refl _, ⟨[], .inl ⟨by simp, by simp, rfl, rfl⟩⟩, h2⟩, O⟩ (by simp)
    · simp only [Option.map_some, stP, pt_add, Nat.zero_add]
      simp only at hcap
      have hj : ys.length ≤ j := by omega
      have hmul : ys.length * sz ≤ j * sz := Nat.mul_le_mul_right _ hj
      refine Held.st O (by simp [hlx, hly, hsp]; omega) hall fun h' O' => ?_
      rw [← hlx, put_app _ _ _ (by rw [hly, hsp]; exact hmul)] at O'
      refine k _ _ ⟨_, ⟨[(b, .inl ((xs ++ ys).flatMap enc ++ sp.drop (ys.flatMap enc).length))], E2, List.Perm.refl _, ⟨sp.drop (ys.flatMap enc).length, .inr ⟨b, j - ys.length, ?_, ?_, rfl⟩⟩, h2⟩, ?_⟩ rfl
      · simp; omega
      · rw [List.length_drop, hly, hsp, Nat.sub_mul]
      · rw [List.flatMap_append]; exact O'
  · rcases hA with ⟨rfl, rfl, rfl, rfl⟩ | ⟨b, j, rfl, hsp, rfl⟩
    · refine ⟨[], rfl, fun c hc => ?_⟩
      have := fresh c (by simpa using hc)
      simp only [List.length_nil, Nat.zero_add, List.nil_append, List.flatMap_nil] at this hc ⊢
      exact k _ _ this (by simp)
    · refine ⟨xs.flatMap enc, ?_, fun c hc => ?_⟩
      · simp only
        have := cellsAre_blk (b := b) (cs := xs.flatMap enc ++ sp) (O.blk _ (List.mem_cons_self)).2 0 (xs.flatMap enc ++ sp).length
        rw [List.drop_zero, List.take_length] at this
        simp only [rdP]
        have h3 := rdL_take (xs.length * sz) (by simp [hlx]) this
        rw [← hlx, List.take_left] at h3
        rw [← hlx]; exact h3
      · exact k _ _ (fresh c hc) rfl
set_option maxRecDepth 20000 in
theorem messageTurned_main (H : Heap) (cs : List Value) (F : Fit H 140737488351232 tyTurn cs) (E : Er H) (U : Us H) : E_law8_MessageTurned [.agg cs.toArray] H (fun r h' => r = .bool true ∧ KeptH H h') := by
  replace F := Fit.g F
  replace F := Fit.g F
  obtain ⟨m1, _, rfl, m1a, m1b, F⟩ := Fit.i F
  replace F := Fit.g F
  obtain ⟨m2, _, rfl, m2a, m2b, F⟩ := Fit.i F
  replace F := Fit.g F
  obtain ⟨m3, _, rfl, m3a, m3b, F⟩ := Fit.i F
  replace F := Fit.g F
  obtain ⟨m4, _, rfl, m4a, m4b, F⟩ := Fit.i F
  replace F := Fit.z F
  replace F := Fit.g F
  obtain ⟨m5, _, rfl, m5a, m5b, F⟩ := Fit.i F
  replace F := Fit.g F
  replace F := Fit.g F
  obtain ⟨m6, _, rfl, m6a, m6b, F⟩ := Fit.i F
  replace F := Fit.g F
  obtain ⟨m7, _, rfl, m7a, m7b, F⟩ := Fit.i F
  replace F := Fit.z F
  replace F := Fit.g F
  obtain ⟨m8, _, rfl, m8a, m8b, F⟩ := Fit.i F
  replace F := Fit.g F
  obtain ⟨m9, _, rfl, m9a, m9b, F⟩ := Fit.i F
  replace F := Fit.g F
  obtain ⟨m10, _, rfl, m10a, m10b, F⟩ := Fit.i F
  replace F := Fit.g F
  obtain ⟨m11, _, rfl, m11S, F⟩ := Fit.s F
  replace F := Fit.g F
  obtain ⟨m12, _, rfl, m12a, m12b, F⟩ := Fit.i F
  replace F := Fit.g F
  obtain ⟨m13, _, rfl, m13a, m13b, F⟩ := Fit.i F
  replace F := Fit.g F
  obtain ⟨m14, _, rfl, m14l, F⟩ := Fit.a F
  replace F := Fit.g F
  obtain ⟨m15, _, rfl, m15l, F⟩ := Fit.a F
  replace F := Fit.g F
  obtain ⟨m16, _, rfl, m16a, m16b, F⟩ := Fit.i F
  replace F := Fit.g F
  replace F := Fit.g F
  obtain ⟨m17, _, rfl, m17a, m17b, F⟩ := Fit.i F
  replace F := Fit.g F
  obtain ⟨m18, _, rfl, m18a, m18b, F⟩ := Fit.i F
  replace F := Fit.z F
  replace F := Fit.g F
  obtain ⟨m19, _, rfl, m19a, m19b, F⟩ := Fit.i F
  replace F := Fit.g F
  obtain ⟨m20, _, rfl, m20a, m20b, F⟩ := Fit.i F
  replace F := Fit.g F
  obtain ⟨m21, _, rfl, m21a, m21b, F⟩ := Fit.i F
  replace F := Fit.g F
  obtain ⟨m22, _, rfl, m22a, m22b, F⟩ := Fit.i F
  replace F := Fit.z F
  obtain ⟨t23, _, rfl, t23a, t23b, F⟩ := Fit.i F
  obtain ⟨t24, _, rfl, t24a, t24b, F⟩ := Fit.i F
  obtain ⟨t25, _, rfl, t25S, F⟩ := Fit.s F
  obtain rfl := Fit.e F
  refine Eq.mpr (E_law8_MessageTurned.at F_law8_MessageTurned m1 m2 m3 m4 m5 m6 m7 m8 m9 m10 m11 m12 m13 m14 m15 m16 m17 m18 m19 m20 m21 m22 t23 t24 t25 H _) ?_
  obtain ⟨_, a2, l, Vl⟩ := m11S.bytes
  obtain ⟨_, b2, tl, Vt⟩ := t25S.bytes
  have hl := Vl.len
  have ht := Vt.len
  rw [u64_min] at m5a m6a m7a m8a m10a m13a m16a m17a m18a
  obtain ⟨m, hm⟩ : ∃ m : Mg, m = ⟨m1, m2, m3, m4, m5, m6, m7, m8, m9, m10, m11, m12, m13, m14, m15, m16, m17, m18, m19, m20, m21, m22, l⟩ := ⟨_, rfl⟩
  have hpos : Pos m := by
    intro q hq
    rw [hm]
    by_cases h18 : q < 18
    · rcases (cas h18 hq).1 rfl with rfl | rfl | rfl | rfl | rfl | rfl | rfl | rfl | rfl <;> assumption
    · unfold pget
      split <;> first | omega | exact Int.le_refl _
  rw [F_law8_MessageTurned.eq_1, F_law8_MessageTurned_of.eq_1]
  refine Sat.al (Sat.nil H) fun a h O => ?_
  refine F_law8_begun.is O U E fun h O => ?_
  refine brr_ff rfl ?_
  simp only [nn_some, pt_add, Nat.zero_add, Nat.add_zero, Nat.reduceAdd, Nat.reduceMul, Int.toNat_zero, Int.toNat_one, Nat.zero_mul, Nat.one_mul]
  refine O.ld 0 rfl (ldL_c (ldL_c (ldL_c (ldL_c (ldL_c (ldL_c (ldL_c (ldL_c (ldL_c (ldL_c (ldL_s (ldL_c (ldL_c (ldL_c (ldL_c (ldL_c (ldL_c (ldL_c (ldL_c (ldL_c (ldL_c (ldL_c (ldL_n ?_)))))))))))))))))))))))
  have V : Stays H [own a (mgC m ++ [.int .i64 t23, .int .i64 t24, .slice t25.ptr t25.len t25.cap])] fun h => Bytes h m.v m.b := by
    rw [hm]
    exact fun h O => Vl.kept O.kept
  have hb : m.b.length < 4611686018427387904 := by rw [hm]; show l.length < _; omega
  have O : Sat H h [own a (mgC m ++ [.int .i64 t23, .int .i64 t24, .slice t25.ptr t25.len t25.cap])] := by rw [hm]; exact O
  subst hm
  refine F_ref8_Encode.is (m := ⟨m1, m2, m3, m4, m5, m6, m7, m8, m9, m10, m11, m12, m13, m14, m15, m16, m17, m18, m19, m20, m21, m22, l⟩) O V hb hpos fun s h O => ?_
  generalize (⟨m1, m2, m3, m4, m5, m6, m7, m8, m9, m10, m11, m12, m13, m14, m15, m16, m17, m18, m19, m20, m21, m22, l⟩ : Mg) = m at O V hpos ⊢
  refine brr_ne (fun e => ?_) (fun e => ?_)
  · refine F_law8_begun.is O U E fun h O => ?_
    exact And.intro (by first | rfl | trivial) O.kept
  have hx : encB m = sealB (bodyM m) := by unfold encB; rw [if_pos e]
  have hbl := body_len e
  rw [hx] at O
  have hxl : (sealB (bodyM m)).length = (bodyM m).length + 4 := by unfold sealB; rw [List.length_append, fixB_len]
  have hflip : ∀ i, i < 8 * (sealB (bodyM m)).length → decP (flipU (sealB (bodyM m)) i) = (mgz, 82) := fun i hi => decP_flip hbl.1 hi
  generalize hxs : sealB (bodyM m) = xs at *
  obtain ⟨hV0, hcap⟩ := O.view 0 u8_len (by simp) rfl
  have hsl := hV0.len
  refine O.ld 1 rfl (ldL_c (ldL_n ?_))
  rw [hsl, wrap64 (x := 8 * (xs.length : Int)) (by omega) (by omega)]
  refine ⟨by omega, ?_⟩
  refine F_ref0_Copy.is O hV0 (by omega) fun sc h O _ _ => ?_
  obtain ⟨n, hn, e24⟩ := and24 t23
  rw [e24]
  have i0 : 0 ≤ (n : Int).tmod (8 * (xs.length : Int)) := Int.tmod_nonneg _ (by omega)
  have i1 : (n : Int).tmod (8 * (xs.length : Int)) < 8 * (xs.length : Int) := Int.tmod_lt_of_pos _ (by omega)
  generalize (n : Int).tmod (8 * (xs.length : Int)) = i at i0 i1 ⊢
  refine flip_step O i0 (by omega) (by omega) fun h O => ?_
  refine F_message_Decode.is O U E (fun h O => O.view 0 u8_len (by simp) rfl) (by rw [flipU_len]; omega) (hflip i.toNat (by omega)) fun sd h O => ?_
  refine O.al fun z h O => ?_
  refine O.st 0 rfl (by simp) rfl fun h O => ?_
  have O := O.drop.drop.drop
  refine F_law8_num.is ?_
  refine brr_ff (by decide) ?_
  have O : Sat H h [buf 1 u8 s xs, own a (mgC m ++ [.int .i64 t23, .int .i64 t24, .slice t25.ptr t25.len t25.cap])] := O
  refine O.ld 1 rfl (ldL_c (ldL_n ?_))
  refine ⟨by omega, ?_⟩
  obtain ⟨n2, hn2, e24b⟩ := and24 t24
  rw [e24b]
  have j0 : 0 ≤ (n2 : Int).tmod (xs.length : Int) := Int.tmod_nonneg _ (by omega)
  have j1 : (n2 : Int).tmod (xs.length : Int) < (xs.length : Int) := Int.tmod_lt_of_pos _ (by omega)
  generalize (n2 : Int).tmod (xs.length : Int) = k at j0 j1 ⊢
  refine ⟨j0, by omega, ?_⟩
  refine F_ref0_Copy.is O ((O.view 0 u8_len (by simp) rfl).1.take k.toNat s.cap (by omega)) (by rw [List.length_take]; omega) fun sd h O _ _ => ?_
  refine O.ld 2 rfl (ldL_s (ldL_n ?_))
  refine F_ref0_Copy.is O (O.view 1 u8_len (by simp) rfl).1 (by omega) fun sg h O _ _ => ?_
  refine ⟨O.cells 3 rfl 24 1, ?_⟩
  have Vt2 := Vt.kept O.kept
  refine O.app_bufW u8_len u8_one rfl (ys := tl) Vt2.len (Vt2.rd u8_len) (by omega) fun sg h O _ => ?_
  refine jn_go ?_
  refine F_law8_same.isW O U E (fun h O => O.view 1 u8_len (by simp) rfl) (by rw [List.length_take]; omega) fun h O => ?_
  refine brr_tt rfl ?_
  refine F_law8_same.isW O U E (fun h O => O.view 0 u8_len (by simp) rfl) (by rw [List.length_append]; omega) fun h O => ?_
  refine brr_tt rfl ?_
  refine F_law8_begun.is O U E fun h O => ?_
  exact And.intro (by first | rfl | trivial) O.kept
end Go.Proofs.YthiginhigfieiaaGreatDoor.V
