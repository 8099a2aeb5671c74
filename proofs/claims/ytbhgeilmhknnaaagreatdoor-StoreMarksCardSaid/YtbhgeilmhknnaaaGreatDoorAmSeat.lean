/- The seat: its types as Lean structures, as data, and the table of zeros. Printed by geng.py. -/
import Derived.Test.YtbhgeilmhknnaaaGreatDoorAmAny
import Derived.Test.YtbhgeilmhknnaaaGreatDoorProg
namespace Go.Am
open Go.Proofs
set_option maxRecDepth 100000
abbrev Str := List UInt8
structure A2 (α : Type) where
  a0 : α
  a1 : α
deriving Inhabited
structure A4 (α : Type) where
  a0 : α
  a1 : α
  a2 : α
  a3 : α
deriving Inhabited
structure A5 (α : Type) where
  a0 : α
  a1 : α
  a2 : α
  a3 : α
  a4 : α
deriving Inhabited
def eI64 (n : Int) : D := .int .i64 n
def wI64 (n : Int) : Int := IntKind.wrap .i64 n
def andI64 (a b : Int) : Int := IntKind.wrap .i64 (BitVec.ofInt (IntKind.bits .i64) a &&& BitVec.ofInt (IntKind.bits .i64) b).toNat
def orI64 (a b : Int) : Int := IntKind.wrap .i64 (BitVec.ofInt (IntKind.bits .i64) a ||| BitVec.ofInt (IntKind.bits .i64) b).toNat
def xorI64 (a b : Int) : Int := IntKind.wrap .i64 (BitVec.ofInt (IntKind.bits .i64) a ^^^ BitVec.ofInt (IntKind.bits .i64) b).toNat
def andnotI64 (a b : Int) : Int := IntKind.wrap .i64 (BitVec.ofInt (IntKind.bits .i64) a &&& ~~~ BitVec.ofInt (IntKind.bits .i64) b).toNat
def shlI64 (a b : Int) : Int := IntKind.wrap .i64 (a * 2 ^ min b.toNat (IntKind.bits .i64))
def shrI64 (a b : Int) : Int := a.fdiv (2 ^ min b.toNat (IntKind.bits .i64))
def eU64 (n : Int) : D := .int .u64 n
def wU64 (n : Int) : Int := IntKind.wrap .u64 n
def andU64 (a b : Int) : Int := IntKind.wrap .u64 (BitVec.ofInt (IntKind.bits .u64) a &&& BitVec.ofInt (IntKind.bits .u64) b).toNat
def orU64 (a b : Int) : Int := IntKind.wrap .u64 (BitVec.ofInt (IntKind.bits .u64) a ||| BitVec.ofInt (IntKind.bits .u64) b).toNat
def xorU64 (a b : Int) : Int := IntKind.wrap .u64 (BitVec.ofInt (IntKind.bits .u64) a ^^^ BitVec.ofInt (IntKind.bits .u64) b).toNat
def andnotU64 (a b : Int) : Int := IntKind.wrap .u64 (BitVec.ofInt (IntKind.bits .u64) a &&& ~~~ BitVec.ofInt (IntKind.bits .u64) b).toNat
def shlU64 (a b : Int) : Int := IntKind.wrap .u64 (a * 2 ^ min b.toNat (IntKind.bits .u64))
def shrU64 (a b : Int) : Int := a.fdiv (2 ^ min b.toNat (IntKind.bits .u64))
def eU32 (n : Int) : D := .int .u32 n
def wU32 (n : Int) : Int := IntKind.wrap .u32 n
def andU32 (a b : Int) : Int := IntKind.wrap .u32 (BitVec.ofInt (IntKind.bits .u32) a &&& BitVec.ofInt (IntKind.bits .u32) b).toNat
def orU32 (a b : Int) : Int := IntKind.wrap .u32 (BitVec.ofInt (IntKind.bits .u32) a ||| BitVec.ofInt (IntKind.bits .u32) b).toNat
def xorU32 (a b : Int) : Int := IntKind.wrap .u32 (BitVec.ofInt (IntKind.bits .u32) a ^^^ BitVec.ofInt (IntKind.bits .u32) b).toNat
def andnotU32 (a b : Int) : Int := IntKind.wrap .u32 (BitVec.ofInt (IntKind.bits .u32) a &&& ~~~ BitVec.ofInt (IntKind.bits .u32) b).toNat
def shlU32 (a b : Int) : Int := IntKind.wrap .u32 (a * 2 ^ min b.toNat (IntKind.bits .u32))
def shrU32 (a b : Int) : Int := a.fdiv (2 ^ min b.toNat (IntKind.bits .u32))
def eU8 (n : Int) : D := .int .u8 n
def wU8 (n : Int) : Int := IntKind.wrap .u8 n
def andU8 (a b : Int) : Int := IntKind.wrap .u8 (BitVec.ofInt (IntKind.bits .u8) a &&& BitVec.ofInt (IntKind.bits .u8) b).toNat
def orU8 (a b : Int) : Int := IntKind.wrap .u8 (BitVec.ofInt (IntKind.bits .u8) a ||| BitVec.ofInt (IntKind.bits .u8) b).toNat
def xorU8 (a b : Int) : Int := IntKind.wrap .u8 (BitVec.ofInt (IntKind.bits .u8) a ^^^ BitVec.ofInt (IntKind.bits .u8) b).toNat
def andnotU8 (a b : Int) : Int := IntKind.wrap .u8 (BitVec.ofInt (IntKind.bits .u8) a &&& ~~~ BitVec.ofInt (IntKind.bits .u8) b).toNat
def shlU8 (a b : Int) : Int := IntKind.wrap .u8 (a * 2 ^ min b.toNat (IntKind.bits .u8))
def shrU8 (a b : Int) : Int := a.fdiv (2 ^ min b.toNat (IntKind.bits .u8))
def eI32 (n : Int) : D := .int .i32 n
def wI32 (n : Int) : Int := IntKind.wrap .i32 n
def andI32 (a b : Int) : Int := IntKind.wrap .i32 (BitVec.ofInt (IntKind.bits .i32) a &&& BitVec.ofInt (IntKind.bits .i32) b).toNat
def orI32 (a b : Int) : Int := IntKind.wrap .i32 (BitVec.ofInt (IntKind.bits .i32) a ||| BitVec.ofInt (IntKind.bits .i32) b).toNat
def xorI32 (a b : Int) : Int := IntKind.wrap .i32 (BitVec.ofInt (IntKind.bits .i32) a ^^^ BitVec.ofInt (IntKind.bits .i32) b).toNat
def andnotI32 (a b : Int) : Int := IntKind.wrap .i32 (BitVec.ofInt (IntKind.bits .i32) a &&& ~~~ BitVec.ofInt (IntKind.bits .i32) b).toNat
def shlI32 (a b : Int) : Int := IntKind.wrap .i32 (a * 2 ^ min b.toNat (IntKind.bits .i32))
def shrI32 (a b : Int) : Int := a.fdiv (2 ^ min b.toNat (IntKind.bits .i32))
def eB (b : Bool) : D := .bool b
def eS (s : Str) : D := .str s
def eL {α : Type} (f : α → D) (l : List α) : D := .sl (l.map f)
def eA2 {α : Type} (f : α → D) (x : A2 α) : D := .agg [f x.a0, f x.a1]
def eA4 {α : Type} (f : α → D) (x : A4 α) : D := .agg [f x.a0, f x.a1, f x.a2, f x.a3]
def eA5 {α : Type} (f : α → D) (x : A5 α) : D := .agg [f x.a0, f x.a1, f x.a2, f x.a3, f x.a4]
def by8 (n : Int) : UInt8 := UInt8.ofNat n.toNat
structure Write where
  sector : Int
  data : Str
deriving Inhabited
def eWrite (x : Write) : D := .agg [eI64 x.sector, eS x.data]
structure Disk where
  sure : (List Str)
  cache : (List Write)
  fuse : Int
  dead : Bool
deriving Inhabited
def eDisk (x : Disk) : D := .agg [(eL eS) x.sure, (eL eWrite) x.cache, eI64 x.fuse, eB x.dead]
structure Vector where
  current : Int
  bitmap : Int
  old : (A2 Int)
deriving Inhabited
def eVector (x : Vector) : D := .agg [eU64 x.current, eU64 x.bitmap, (eA2 eU64) x.old]
structure Super where
  blocks : Int
  vector : Vector
  inc : Bool
  pri : Bool
  dis : Bool
deriving Inhabited
def eSuper (x : Super) : D := .agg [eI64 x.blocks, eVector x.vector, eB x.inc, eB x.pri, eB x.dis]
structure Store where
  disk : Disk
  super : Super
  mask : Int
deriving Inhabited
def eStore (x : Store) : D := .agg [eDisk x.disk, eSuper x.super, eU32 x.mask]
structure Act_law15 where
  kind : Int
  block : Int
  mask : Int
  data : Str
  super : Super
deriving Inhabited
def eAct_law15 (x : Act_law15) : D := .agg [eI64 x.kind, eI64 x.block, eU32 x.mask, eS x.data, eSuper x.super]
structure Event where
  kind : Int
  node : Int
  id : Int
  block : Int
  data : Str
  n : Int
  keeps : (List Bool)
deriving Inhabited
def eEvent (x : Event) : D := .agg [eI64 x.kind, eI64 x.node, eI64 x.id, eI64 x.block, eS x.data, eU64 x.n, (eL eB) x.keeps]
structure Case_law16 where
  blocks : Int
  l : (List Event)
  side : Bool
deriving Inhabited
def eCase_law16 (x : Case_law16) : D := .agg [eU8 x.blocks, (eL eEvent) x.l, eB x.side]
structure Hello where
  blocks : Int
  vector : Vector
  inc : Bool
  was : Bool
  dis : Bool
  pri : Bool
  mask : Int
deriving Inhabited
def eHello (x : Hello) : D := .agg [eI64 x.blocks, eVector x.vector, eB x.inc, eB x.was, eB x.dis, eB x.pri, eU32 x.mask]
structure Request where
  on : Bool
  id : Int
  block : Int
  data : Str
deriving Inhabited
def eRequest (x : Request) : D := .agg [eB x.on, eI64 x.id, eI64 x.block, eS x.data]
structure Mint where
  gen : Int
  parent : Int
  node : Int
deriving Inhabited
def eMint (x : Mint) : D := .agg [eU64 x.gen, eU64 x.parent, eI64 x.node]
structure Node where
  id : Int
  up : Bool
  store : Store
  primary : Bool
  state : Int
  session : Int
  peer : Hello
  peerPri : Bool
  req : Request
  asking : Bool
  askId : Int
  wanted : Int
  minted : Bool
  draws : (List Int)
  mints : (List Mint)
deriving Inhabited
def eNode (x : Node) : D := .agg [eI64 x.id, eB x.up, eStore x.store, eB x.primary, eI64 x.state, eU64 x.session, eHello x.peer, eB x.peerPri, eRequest x.req, eB x.asking, eI64 x.askId, eI64 x.wanted, eB x.minted, (eL eU64) x.draws, (eL eMint) x.mints]
structure Out where
  kind : Int
  node : Int
  id : Int
  err : Int
  data : Str
deriving Inhabited
def eOut (x : Out) : D := .agg [eI64 x.kind, eI64 x.node, eI64 x.id, eI64 x.err, eS x.data]
structure Case_law20 where
  blocks : Int
  l : (List Event)
  side : Bool
deriving Inhabited
def eCase_law20 (x : Case_law20) : D := .agg [eU8 x.blocks, (eL eEvent) x.l, eB x.side]
structure Packet where
  kind : Int
  session : Int
  hello : Hello
  block : Int
  data : Str
deriving Inhabited
def ePacket (x : Packet) : D := .agg [eI64 x.kind, eU64 x.session, eHello x.hello, eI64 x.block, eS x.data]
structure Link where
  up : Bool
  session : Int
  to : (A2 (List Str))
deriving Inhabited
def eLink (x : Link) : D := .agg [eB x.up, eU64 x.session, (eA2 (eL eS)) x.to]
structure Cluster where
  nodes : (A2 Node)
  link : Link
  want : (A2 Bool)
deriving Inhabited
def eCluster (x : Cluster) : D := .agg [(eA2 eNode) x.nodes, eLink x.link, (eA2 eB) x.want]
structure Worker_node where
  node : Node
  outs : (List Out)
deriving Inhabited
def eWorker_node (x : Worker_node) : D := .agg [eNode x.node, (eL eOut) x.outs]
structure Talk_node where
  id : Int
  state : Int
  ask : Int
  wanted : Int
  up : Bool
  primary : Bool
  peer : Bool
  asking : Bool
  minted : Bool
  session : Int
  hello : Hello
  req : Request
deriving Inhabited
def eTalk_node (x : Talk_node) : D := .agg [eI64 x.id, eI64 x.state, eI64 x.ask, eI64 x.wanted, eB x.up, eB x.primary, eB x.peer, eB x.asking, eB x.minted, eU64 x.session, eHello x.hello, eRequest x.req]
structure Post_settle where
  cluster : Cluster
  side : Int
  n : Int
  outs : (List Out)
deriving Inhabited
def ePost_settle (x : Post_settle) : D := .agg [eCluster x.cluster, eI64 x.side, eI64 x.n, (eL eOut) x.outs]
structure Shape_packet where
  hello : Bool
  block : Bool
  data : Bool
deriving Inhabited
def eShape_packet (x : Shape_packet) : D := .agg [eB x.hello, eB x.block, eB x.data]
structure Worker_greet where
  node : Node
  outs : (List Out)
deriving Inhabited
def eWorker_greet (x : Worker_greet) : D := .agg [eNode x.node, (eL eOut) x.outs]
structure Verdict where
  kind : Int
  source : Int
deriving Inhabited
def eVerdict (x : Verdict) : D := .agg [eI64 x.kind, eI64 x.source]
structure Worker_write where
  node : Node
  outs : (List Out)
deriving Inhabited
def eWorker_write (x : Worker_write) : D := .agg [eNode x.node, (eL eOut) x.outs]
structure Worker_sync where
  node : Node
  outs : (List Out)
deriving Inhabited
def eWorker_sync (x : Worker_sync) : D := .agg [eNode x.node, (eL eOut) x.outs]
structure Worker_peer where
  node : Node
  outs : (List Out)
deriving Inhabited
def eWorker_peer (x : Worker_peer) : D := .agg [eNode x.node, (eL eOut) x.outs]
structure World_cluster where
  cluster : Cluster
  outs : (List Out)
deriving Inhabited
def eWorld_cluster (x : World_cluster) : D := .agg [eCluster x.cluster, (eL eOut) x.outs]
structure Pair_rule where
  hellos : (A2 Hello)
  source : Int
deriving Inhabited
def ePair_rule (x : Pair_rule) : D := .agg [(eA2 eHello) x.hellos, eI64 x.source]
noncomputable abbrev Pg : Program := Tryz.prog
theorem hmx : Pg.follows .mixedOrders = true := by kernel_rfl
def ztab : List (Nat × AV) := [(4, (.d (eB false))), (5, (.d (eU8 (0 : Int)))), (9, (.d (eS ([] : Str)))), (28, (.agg [(.full (([] : (List Str)).map eS)), (.full (([] : (List Write)).map eWrite)), (.d (eI64 (0 : Int))), (.d (eB false))])), (30, (.agg [(.d (eU64 (0 : Int))), (.d (eU64 (0 : Int)))])), (32, (.agg [(.d (eU64 (0 : Int))), (.d (eU64 (0 : Int))), (.agg [(.d (eU64 (0 : Int))), (.d (eU64 (0 : Int)))])])), (34, (.agg [(.d (eI64 (0 : Int))), (.agg [(.d (eU64 (0 : Int))), (.d (eU64 (0 : Int))), (.agg [(.d (eU64 (0 : Int))), (.d (eU64 (0 : Int)))])]), (.d (eB false)), (.d (eB false)), (.d (eB false))])), (37, (.agg [(.agg [(.full (([] : (List Str)).map eS)), (.full (([] : (List Write)).map eWrite)), (.d (eI64 (0 : Int))), (.d (eB false))]), (.agg [(.d (eI64 (0 : Int))), (.agg [(.d (eU64 (0 : Int))), (.d (eU64 (0 : Int))), (.agg [(.d (eU64 (0 : Int))), (.d (eU64 (0 : Int)))])]), (.d (eB false)), (.d (eB false)), (.d (eB false))]), (.d (eU32 (0 : Int)))])), (40, (.d (eI64 (0 : Int)))), (126, (.agg [(.d (eI64 (0 : Int))), (.d (eS ([] : Str)))])), (227, (.con (.pointer none))), (232, (.agg [(.d (eS ([] : Str))), (.con .nilIface)])), (285, (.agg [(.con (.pointer none)), (.con (.pointer none)), (.con (.pointer none)), (.con (.pointer none))]))]
theorem ztab_ok : AllZ Pg ztab := ⟨⟨by kernel_rfl, by kernel_rfl⟩, ⟨by kernel_rfl, by kernel_rfl⟩, ⟨by kernel_rfl, by kernel_rfl⟩, ⟨by kernel_rfl, by kernel_rfl⟩, ⟨by kernel_rfl, by kernel_rfl⟩, ⟨by kernel_rfl, by kernel_rfl⟩, ⟨by kernel_rfl, by kernel_rfl⟩, ⟨by kernel_rfl, by kernel_rfl⟩, ⟨by kernel_rfl, by kernel_rfl⟩, ⟨by kernel_rfl, by kernel_rfl⟩, ⟨by kernel_rfl, by kernel_rfl⟩, ⟨by kernel_rfl, by kernel_rfl⟩, ⟨by kernel_rfl, by kernel_rfl⟩, trivial⟩
noncomputable def Zt : Zeros Pg := .of ztab ztab_ok
def xLen (P : Program) (t : Nat) (x : AV) : Option OR := (evLen P t x).map .val
def xBin (P : Program) (op : BinOp) (t : Nat) (x y : AV) : Option OR := (evBin P op t false x y).map .val
def xIdx (P : Program) (t : Nat) (x y : AV) : Option OR := (evIndex P t x y).map .val
def xIdA (P : Program) (t : Nat) (x y : AV) : Option OR := (evIndexAddr P t x y).map .val
theorem an1 {a b : Bool} (h : (a && b) = true) : a = true := (Bool.and_eq_true _ _ ▸ h).1
theorem an2 {a b : Bool} (h : (a && b) = true) : b = true := (Bool.and_eq_true _ _ ▸ h).2
theorem shl_ok {P : Program} {t : Nat} {k k' : IntKind} {a b : Int} (h : decide (0 ≤ b) = true) : xBin P .shl t (.d (.int k a)) (.d (.int k' b)) = some (.val (.d (.int k (k.wrap (a * 2 ^ min b.toNat k.bits))))) := by
  simp only [decide_eq_true_eq] at h
  simp only [xBin, evBin]
  rw [if_neg (by omega)]
  rfl
theorem shr_ok {P : Program} {t : Nat} {k k' : IntKind} {a b : Int} (h : decide (0 ≤ b) = true) : xBin P .shr t (.d (.int k a)) (.d (.int k' b)) = some (.val (.d (.int k (a.fdiv (2 ^ min b.toNat k.bits))))) := by
  simp only [decide_eq_true_eq] at h
  simp only [xBin, evBin]
  rw [if_neg (by omega)]
  rfl
theorem quo_ok {P : Program} {t : Nat} {k : IntKind} {a b : Int} (h : (!(b == 0)) = true) : xBin P .quo t (.d (.int k a)) (.d (.int k b)) = some (.val (.d (.int k (k.wrap (a.tdiv b))))) := by
  have h : b ≠ 0 := by simpa using h
  simp [xBin, evBin, intOp, h]
theorem rem_ok {P : Program} {t : Nat} {k : IntKind} {a b : Int} (h : (!(b == 0)) = true) : xBin P .rem t (.d (.int k a)) (.d (.int k b)) = some (.val (.d (.int k (a.tmod b)))) := by
  have h : b ≠ 0 := by simpa using h
  simp [xBin, evBin, intOp, h]
theorem clip_d {P : Program} {α : Type} {t s : Nat} {g : Bool} {y : Nat} {h : List Box} {k k' : IntKind} {f : α → D} {l : List α} (ht : sle P t = some (s, g, y)) (hs : ∀ x, (f x).size = s) :
    evSlice P t (.d (.sl (l.map f))) none (some (.d (.int k l.length))) (some (.d (.int k' l.length))) h = some (.val (.full (l.map f))) := by
  have h1 : ∀ (k : IntKind) (d : Nat), bound (some (.d (.int k l.length))) d (l.map f).length = some l.length := fun k d => by
    simp [bound]
  have h2 : ∀ (k : IntKind) (d : Nat), bound (some (.d (.int k l.length))) d l.length = some l.length := fun k d => by
    simp [bound]
  simp only [evSlice, AV.items, ht, all_size hs l, if_pos, Option.isSome_some, h1, h2, Option.bind_some]
  rw [show bound none 0 l.length = some 0 from rfl]
  simp [List.take_of_length_le]
def xLd (P : Program) (t : Nat) (a : AV) (h : List Box) : Option OR := (evLoad P t a h).map .val
def xCv (P : Program) (s d : Nat) (x : AV) (h : List Box) : Option OR := (evConv P s d x h).map .val
def mkOK (n : Int) (by_ : Int) : Bool := decide (0 ≤ n ∧ n ≤ 140737488355328 ∧ by_ * n ≤ 281474976710656)
def bytesOf (l : List Int) : Str := l.map fun n => UInt8.ofNat n.toNat
theorem ld_row {P : Program} {α : Type} [Inhabited α] {t s : Nat} {b : Bool} {x i : Nat} {f : α → D} {l : List α} {h : List Box} (hl : lay P t = some (s, b)) (hs : ∀ x, (f x).size = s) (ha : ∀ x, (f x).isAgg = b) (hb : h[x]? = some (.row (l.map f) s)) (hi : decide (i < l.length) = true) :
    xLd P t (.eptr x i s) h = some (.val (.d (f (l.getD i default)))) := by
  simp only [decide_eq_true_eq] at hi
  simp only [xLd, evLoad, hl, hb, if_pos, List.getElem?_map, getD_some hi default, Option.map_some, hs, ha, and_self]
theorem st_row {P : Program} {α : Type} {t s : Nat} {b : Bool} {y i : Nat} {f : α → D} {l : List α} {x : α} {v : AV} {h : List Box} (hl : lay P t = some (s, b)) (_hs : ∀ x, (f x).size = s) (hv : v.toD = some (f x)) (hv2 : (v.size, v.solid) = (s, true)) (hb : h[y]? = some (.row (l.map f) s)) (hi : decide (i < l.length) = true) :
    evStore P t (.eptr y i s) v h = some (.box y (.row ((l.set i x).map f) s) .any) := by
  simp only [decide_eq_true_eq] at hi
  simp only [Prod.mk.injEq] at hv2
  simp only [evStore, hl, hb, hv, hv2.1, hv2.2, and_self, if_pos, List.length_map, hi, List.map_set]
theorem mk_row {P : Program} {Z : Zeros P} {α : Type} {t e s : Nat} {b : Bool} {k k' : IntKind} {f : α → D} {z : α} {n by_ : Int} {nb : Nat} {h : List Box} (ht : P.underlying t = some (.slice e)) (hl : lay P e = some (s, b)) (hz : Z.z e = some (.d (f z))) (hsz : (f z).size = s) (hs : s ≠ 0)
    (hby : (P.bytesOf e : Int) = by_) (hb : h[nb]? = some .hole) (hc : mkOK n by_ = true) :
    evMake P Z t (.d (.int k n)) (.d (.int k' n)) h nb = some (.box nb (.row ((List.replicate n.toNat z).map f) s) (.msl nb n.toNat)) := by
  simp only [mkOK, decide_eq_true_eq] at hc
  simp only [evMake, ht, hb, hl, hz, hby]
  rw [if_pos ⟨trivial, hc.1, hc.2.1, hc.2.2, hsz, hs⟩, List.map_replicate]
theorem numsD_map : ∀ l : List Int, numsD (l.map eU8) = some l
  | [] => rfl
  | x :: l => by
    show (numsD (l.map eU8)).map (x :: ·) = _
    rw [numsD_map l]
    rfl
theorem cv_row {P : Program} {s d e : Nat} {x m : Nat} {l : List Int} {h : List Box} (h1 : P.underlying s = some (.slice e)) (h2 : P.underlying d = some .string) (h3 : P.underlying e = some (.int .u8)) (hb : h[x]? = some (.row (l.map eU8) 1)) (hm : decide (l.length = m) = true) :
    xCv P s d (.msl x m) h = some (.val (.d (.str (bytesOf l)))) := by
  simp only [decide_eq_true_eq] at hm
  simp only [xCv, evConv, h1, h2, h3, hb, List.length_map, hm, and_self, if_pos, numsD_map, Option.map_some, bytesOf]
theorem good_nil {P : Program} : Good P [] [] := trivial
theorem good_vf {P : Program} {j : Nat} {r : AV} {f : FuncId} {args : List AV} {os : List (Nat × Orc)} {ls : List Lg} (h : VF P f args r) (h1 : AV.clL args = true) (h2 : r.cl = true) (t : Good P os ls) : Good P ((j, .vf r) :: os) (.vf f args :: ls) := ⟨⟨h, h1, h2⟩, t⟩
theorem good_op {P : Program} {j : Nat} {r : OR} {x : Option OR} {os : List (Nat × Orc)} {ls : List Lg} (h : x = some r) (t : Good P os ls) : Good P ((j, .op r) :: os) (.op x :: ls) := ⟨h, t⟩
theorem good_row {P : Program} {j b : Nat} {r : OR} {x : Option OR} {os : List (Nat × Orc)} {ls : List Lg} (h : x = some r) (t : Good P os ls) : Good P ((j, .row b r) :: os) (.op x :: ls) := ⟨h, t⟩
theorem good_call {P : Program} {j : Nat} {r : AV} {m : List Nat} {E E' : List Box} {mt : List Nat} {T T' : List (Option Nat)} {f : FuncId} {args : List AV} {mh : List (Option Box)} {mk : List (Option (Option Nat))} {os : List (Nat × Orc)} {ls : List Lg}
    (h1 : mh = E.map some) (h2 : mk = T.map some) (h : CallL P f args m E mt T r E' T') (t : Good P os ls) : Good P ((j, .call r m E E' mt T T') :: os) (.call f args mh mk :: ls) := ⟨⟨h1, h2, h⟩, t⟩
end Go.Am
