/- ShardOk of the program and of the reference. -/
import Derived.Test.YtkgalkaafocnjaaShardOkI
import Derived.Test.YtkgalkaafocnjaaShardOkS
